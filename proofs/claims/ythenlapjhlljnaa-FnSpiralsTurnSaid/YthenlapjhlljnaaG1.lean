/- Functions of the program, as plain functions. No condition. -/
import Derived.Test.YthenlapjhlljnaaTyG
set_option linter.unusedVariables false
set_option linter.unusedSimpArgs false
set_option maxRecDepth 100000
namespace Go.Proofs.Ythenlapjhlljnaa.V
open Go Go.Ev Go.Proofs
/-! impl.within -/
noncomputable def c_i_within : FnCx := { env := env 15 [] [], body := bodyOf Try.f175, res := [.tmp 6], ins := [.ro kint, .ro kint, .ro kint], out := [(kbool, true)], T := Bool, fin := fun r => r.1.1, inj := fun t => ((t, ()), ((), (), (), ())), pts := [], fuel := 400, dr := noDr }
noncomputable def i_within (n0 : Int) (low1 : Int) (high2 : Int) : Bool :=
  bif decide (low1 ≤ n0) then decide (n0 ≤ high2) else false
theorem i_within_e (n0 : Int) (low1 : Int) (high2 : Int) : c_i_within.start c_i_within.L (n0, low1, high2, ()) = some (i_within n0 low1 high2) := by
  refine Eq.trans (b := (bif decide (low1 ≤ n0) then some (decide (n0 ≤ high2)) else some false : Option Bool)) (by kernel_rfl) ?_
  unfold i_within
  repeat (first | rfl | apply condS)
noncomputable def F_i_within : Ins c_i_within.ins → Bool := fun x => i_within x.1 x.2.1 x.2.2.1
noncomputable def S_i_within : FSpec := mkT c_i_within.env.pre c_i_within.ins c_i_within.out c_i_within.inj F_i_within
theorem h_i_within : Cert Try.prog 175 S_i_within := FnCx.certT (c := c_i_within) F_i_within (tyOk _ _ _) (spOk trivial) (fun _ _ _ _ _ hs => noDr_ok) Try.func175 rfl rfl Try.ntmps175 (by kernel_rfl) rfl rfl (fun _ => rfl) trivial (fun x => .inl ⟨c_i_within.start () x, fun _ => rfl⟩) (fun x hb => by
  obtain ⟨n0, low1, high2, _⟩ := x
  exact i_within_e n0 low1 high2)
/-! impl.IsSpiral -/
noncomputable def c_i_IsSpiral : FnCx := { env := env 16 [(175, S_i_within)] [], body := bodyOf Try.f102, res := [.tmp 2], ins := [.ro kSpiral], out := [(kbool, true)], T := Bool, fin := fun r => r.1.1, inj := fun t => ((t, ()), ((), ())), pts := [], fuel := 400, dr := noDr }
noncomputable def i_IsSpiral (s0_Steps : Int) (s0_Round : Int) (s0_Rise : Int) : Bool :=
  bif i_within s0_Steps 1 400 then bif i_within s0_Round 3 60 then i_within s0_Rise 1 300 else false else false
theorem i_IsSpiral_e (s0_Steps : Int) (s0_Round : Int) (s0_Rise : Int) : c_i_IsSpiral.start c_i_IsSpiral.L ((s0_Steps, s0_Round, s0_Rise), ()) = some (i_IsSpiral s0_Steps s0_Round s0_Rise) := by
  refine Eq.trans (b := (bif i_within s0_Steps 1 400 then bif i_within s0_Round 3 60 then some (i_within s0_Rise 1 300) else some false else some false : Option Bool)) (by kernel_rfl) ?_
  unfold i_IsSpiral
  repeat (first | rfl | apply condS)
noncomputable def F_i_IsSpiral : Ins c_i_IsSpiral.ins → Bool := fun x => i_IsSpiral x.1.1 x.1.2.1 x.1.2.2
noncomputable def S_i_IsSpiral : FSpec := mkT c_i_IsSpiral.env.pre c_i_IsSpiral.ins c_i_IsSpiral.out c_i_IsSpiral.inj F_i_IsSpiral
theorem h_i_IsSpiral : Cert Try.prog 102 S_i_IsSpiral := FnCx.certT (c := c_i_IsSpiral) F_i_IsSpiral (tyOk _ _ _) (spOk ⟨h_i_within, fun _ _ _ => trivial, trivial⟩) (fun _ _ _ _ _ hs => noDr_ok) Try.func102 rfl rfl Try.ntmps102 (by kernel_rfl) rfl rfl (fun _ => rfl) trivial (fun x => .inl ⟨c_i_IsSpiral.start () x, fun _ => rfl⟩) (fun x hb => by
  obtain ⟨⟨s0_Steps, s0_Round, s0_Rise⟩, _⟩ := x
  exact i_IsSpiral_e s0_Steps s0_Round s0_Rise)
/-! (impl.Spiral).has -/
noncomputable def c_i_Spiral_has : FnCx := { env := env 21 [(175, S_i_within), (102, S_i_IsSpiral)] [], body := bodyOf Try.f219, res := [.tmp 4], ins := [.ro kSpiral, .ro kSint], out := [(kbool, true)], T := Bool, fin := fun r => r.1.1, inj := fun t => ((t, ()), ((), (), ())), pts := [([.inLoop [1, 0, 1, 0, 0], .inBlock 0, .code [1, 1]], Shape.mk [Bs.box 71 [Cs.sc kint, Cs.sc kint, Cs.sc kint], Bs.row kint 3 false] [(2, Ss.one (Cs.ptr 0 0)), (7, Ss.one (Cs.sl 1)), (8, Ss.one (Cs.sc kint)), (9, Ss.one (Cs.sc kint))] [Ss.one (Cs.any), Ss.one (Cs.any)])], fuel := 400, dr := noDr }
noncomputable def i_Spiral_has_t1 (g1 : Int → Int → Int → List (Int) → Int → Int → Option (Bool)) (b0_0 : Int) (b0_1 : Int) (b0_2 : Int) (r1 : List (Int)) (s8 : Int) (s9 : Int) : Option Bool :=
  bif decide (s9 < s8) then
    bif decide (0 ≤ s9) then
      bif decide (s9 < (↑(List.length r1) : Int)) then
        bif !i_within (rdk kint r1 s9) 1 b0_0 then some false else g1 b0_0 b0_1 b0_2 r1 s8 (IntKind.wrap IntKind.i64 (s9 + 1))
      else none
    else none
  else some (i_IsSpiral b0_0 b0_1 b0_2)
noncomputable def i_Spiral_has_t0 (g1 : Int → Int → Int → List (Int) → Int → Int → Option (Bool)) (s0_Steps : Int) (s0_Round : Int) (s0_Rise : Int) (steps1 : List Int) : Option Bool :=
  g1 s0_Steps s0_Round s0_Rise steps1 (↑(List.length steps1) : Int) 0
theorem i_Spiral_has_ts : Tails c_i_Spiral_has.pts c_i_Spiral_has.round :=
  ⟨fun s => by
    obtain ⟨⟨⟨b0_0, b0_1, b0_2, _⟩, r1, _⟩, ⟨_, _, s8, s9, _⟩, ⟨_, _, _⟩⟩ := s
    refine Tail.eq (Y := fun g => i_Spiral_has_t1 (fun b0_0 b0_1 b0_2 r1 s8 s9 => g.1 (((b0_0, b0_1, b0_2, ()), r1, ()), ((), (), s8, s9, ()), ((), (), ()))) b0_0 b0_1 b0_2 r1 s8 s9) ?_ (fun g => by kernel_rfl)
    simp only [i_Spiral_has_t1]; repeat (first | exact Tail.const _ | exact Tail.here _ | exact Tail.there (Tail.here _) | exact Tail.there (Tail.there (Tail.here _)) | exact Tail.there (Tail.there (Tail.there (Tail.here _))) | exact Tail.there (Tail.there (Tail.there (Tail.there (Tail.here _)))) | exact Tail.there (Tail.there (Tail.there (Tail.there (Tail.there (Tail.here _))))) | apply Tail.cond | (apply Tail.bind; intro _)), trivial⟩
theorem i_Spiral_has_hs : ∀ x, Tail c_i_Spiral_has.pts (fun g => c_i_Spiral_has.start g x) := fun x => by
    obtain ⟨⟨s0_Steps, s0_Round, s0_Rise⟩, steps1, _⟩ := x
    refine Tail.eq (Y := fun g => i_Spiral_has_t0 (fun b0_0 b0_1 b0_2 r1 s8 s9 => g.1 (((b0_0, b0_1, b0_2, ()), r1, ()), ((), (), s8, s9, ()), ((), (), ()))) s0_Steps s0_Round s0_Rise steps1) ?_ (fun g => by kernel_rfl)
    simp only [i_Spiral_has_t0]; repeat (first | exact Tail.const _ | exact Tail.here _ | exact Tail.there (Tail.here _) | exact Tail.there (Tail.there (Tail.here _)) | exact Tail.there (Tail.there (Tail.there (Tail.here _))) | exact Tail.there (Tail.there (Tail.there (Tail.there (Tail.here _)))) | exact Tail.there (Tail.there (Tail.there (Tail.there (Tail.there (Tail.here _))))) | apply Tail.cond | (apply Tail.bind; intro _))
noncomputable def i_Spiral_has_L1 (b0_0 : Int) (b0_1 : Int) (b0_2 : Int) (r1 : List (Int)) (s8 : Int) (s9 : Int) : Option Bool := c_i_Spiral_has.L.1 (((b0_0, b0_1, b0_2, ()), r1, ()), ((), (), s8, s9, ()), ((), (), ()))
theorem i_Spiral_has_u1 (b0_0 : Int) (b0_1 : Int) (b0_2 : Int) (r1 : List (Int)) (s8 : Int) (s9 : Int) : i_Spiral_has_L1 b0_0 b0_1 b0_2 r1 s8 s9 = i_Spiral_has_t1 i_Spiral_has_L1 b0_0 b0_1 b0_2 r1 s8 s9 :=
  (congrArg (fun g => g.1 (((b0_0, b0_1, b0_2, ()), r1, ()), ((), (), s8, s9, ()), ((), (), ()))) (FnCx.L_eq i_Spiral_has_ts)).trans (by kernel_rfl)
noncomputable def i_Spiral_has (s0_Steps : Int) (s0_Round : Int) (s0_Rise : Int) (steps1 : List Int) : Option Bool := i_Spiral_has_t0 i_Spiral_has_L1 s0_Steps s0_Round s0_Rise steps1
theorem i_Spiral_has_e (s0_Steps : Int) (s0_Round : Int) (s0_Rise : Int) (steps1 : List Int) : c_i_Spiral_has.start c_i_Spiral_has.L ((s0_Steps, s0_Round, s0_Rise), steps1, ()) = i_Spiral_has s0_Steps s0_Round s0_Rise steps1 := by kernel_rfl
noncomputable def F_i_Spiral_has : Ins c_i_Spiral_has.ins → Option Bool := fun x => i_Spiral_has x.1.1 x.1.2.1 x.1.2.2 x.2.1
noncomputable def S_i_Spiral_has : FSpec := mkF c_i_Spiral_has.env.pre c_i_Spiral_has.ins c_i_Spiral_has.out c_i_Spiral_has.inj F_i_Spiral_has
theorem h_i_Spiral_has : Cert Try.prog 219 S_i_Spiral_has := FnCx.certF (c := c_i_Spiral_has) F_i_Spiral_has (tyOk _ _ _) (spOk ⟨h_i_within, fun _ _ _ => trivial, ⟨h_i_IsSpiral, fun _ _ _ => trivial, trivial⟩⟩) (fun _ _ _ _ _ hs => noDr_ok) Try.func219 rfl rfl Try.ntmps219 (by kernel_rfl) rfl rfl (fun _ => rfl) i_Spiral_has_ts i_Spiral_has_hs (fun x t hb ht => by
  obtain ⟨⟨s0_Steps, s0_Round, s0_Rise⟩, steps1, _⟩ := x
  exact (i_Spiral_has_e s0_Steps s0_Round s0_Rise steps1).trans ht)
/-! (impl.Spiral).angle -/
noncomputable def c_i_Spiral_angle : FnCx := { env := env 10 [] [], body := bodyOf Try.f220, res := [.tmp 4], ins := [.ro kSpiral, .ro kint], out := [(kint, true)], T := Int, fin := fun r => r.1.1, inj := fun t => ((t, ()), ((), (), ())), pts := [], fuel := 400, dr := noDr }
noncomputable def i_Spiral_angle (s0_Steps : Int) (s0_Round : Int) (s0_Rise : Int) (step1 : Int) : Option Int :=
  bif s0_Round == 0 then none else some (Int.tmod (IntKind.wrap IntKind.i64 (step1 - 1)) s0_Round)
theorem i_Spiral_angle_e (s0_Steps : Int) (s0_Round : Int) (s0_Rise : Int) (step1 : Int) : c_i_Spiral_angle.start c_i_Spiral_angle.L ((s0_Steps, s0_Round, s0_Rise), step1, ()) = i_Spiral_angle s0_Steps s0_Round s0_Rise step1 := by kernel_rfl
noncomputable def F_i_Spiral_angle : Ins c_i_Spiral_angle.ins → Option Int := fun x => i_Spiral_angle x.1.1 x.1.2.1 x.1.2.2 x.2.1
noncomputable def S_i_Spiral_angle : FSpec := mkF c_i_Spiral_angle.env.pre c_i_Spiral_angle.ins c_i_Spiral_angle.out c_i_Spiral_angle.inj F_i_Spiral_angle
theorem h_i_Spiral_angle : Cert Try.prog 220 S_i_Spiral_angle := FnCx.certF (c := c_i_Spiral_angle) F_i_Spiral_angle (tyOk _ _ _) (spOk trivial) (fun _ _ _ _ _ hs => noDr_ok) Try.func220 rfl rfl Try.ntmps220 (by kernel_rfl) rfl rfl (fun _ => rfl) trivial (fun x => .inl ⟨c_i_Spiral_angle.start () x, fun _ => rfl⟩) (fun x t hb ht => by
  obtain ⟨⟨s0_Steps, s0_Round, s0_Rise⟩, step1, _⟩ := x
  exact (i_Spiral_angle_e s0_Steps s0_Round s0_Rise step1).trans ht)
/-! impl.gcd -/
noncomputable def c_i_gcd : FnCx := { env := env 12 [] [], body := bodyOf Try.f171, res := [.tmp 4], ins := [.ro kint, .ro kint], out := [(kint, true)], T := Int, fin := fun r => r.1.1, inj := fun t => ((t, ()), ((), (), ())), pts := [([.inLoop [1, 0, 0, 0], .inBlock 0, .code [1, 1]], Shape.mk [] [(0, Ss.one (Cs.sc kint)), (1, Ss.one (Cs.sc kint))] [Ss.one (Cs.any), Ss.one (Cs.any)])], fuel := 400, dr := evDr (env 12 [] []) }
noncomputable def i_gcd_t1 (g1 : Int → Int → Option (Int)) (a0 : Int) (b1 : Int) : Option Int :=
  bif b1 != 0 then bif b1 == 0 then none else g1 b1 (Int.tmod a0 b1) else some a0
noncomputable def i_gcd_t0 (g1 : Int → Int → Option (Int)) (a0 : Int) (b1 : Int) : Option Int :=
  g1 a0 b1
theorem i_gcd_ts : Tails c_i_gcd.pts c_i_gcd.round :=
  ⟨fun s => by
    obtain ⟨_, ⟨a0, b1, _⟩, ⟨_, _, _⟩⟩ := s
    refine Tail.eq (Y := fun g => i_gcd_t1 (fun a0 b1 => g.1 ((), (a0, b1, ()), ((), (), ()))) a0 b1) ?_ (fun g => by kernel_rfl)
    simp only [i_gcd_t1]; repeat (first | exact Tail.const _ | exact Tail.here _ | exact Tail.there (Tail.here _) | exact Tail.there (Tail.there (Tail.here _)) | exact Tail.there (Tail.there (Tail.there (Tail.here _))) | exact Tail.there (Tail.there (Tail.there (Tail.there (Tail.here _)))) | exact Tail.there (Tail.there (Tail.there (Tail.there (Tail.there (Tail.here _))))) | apply Tail.cond | (apply Tail.bind; intro _)), trivial⟩
theorem i_gcd_hs : ∀ x, Tail c_i_gcd.pts (fun g => c_i_gcd.start g x) := fun x => by
    obtain ⟨a0, b1, _⟩ := x
    refine Tail.eq (Y := fun g => i_gcd_t0 (fun a0 b1 => g.1 ((), (a0, b1, ()), ((), (), ()))) a0 b1) ?_ (fun g => by kernel_rfl)
    simp only [i_gcd_t0]; repeat (first | exact Tail.const _ | exact Tail.here _ | exact Tail.there (Tail.here _) | exact Tail.there (Tail.there (Tail.here _)) | exact Tail.there (Tail.there (Tail.there (Tail.here _))) | exact Tail.there (Tail.there (Tail.there (Tail.there (Tail.here _)))) | exact Tail.there (Tail.there (Tail.there (Tail.there (Tail.there (Tail.here _))))) | apply Tail.cond | (apply Tail.bind; intro _))
noncomputable def i_gcd_L1 (a0 : Int) (b1 : Int) : Option Int := c_i_gcd.L.1 ((), (a0, b1, ()), ((), (), ()))
theorem i_gcd_u1 (a0 : Int) (b1 : Int) : i_gcd_L1 a0 b1 = i_gcd_t1 i_gcd_L1 a0 b1 :=
  (congrArg (fun g => g.1 ((), (a0, b1, ()), ((), (), ()))) (FnCx.L_eq i_gcd_ts)).trans (by kernel_rfl)
noncomputable def i_gcd (a0 : Int) (b1 : Int) : Option Int := i_gcd_t0 i_gcd_L1 a0 b1
theorem i_gcd_e (a0 : Int) (b1 : Int) : c_i_gcd.start c_i_gcd.L (a0, b1, ()) = i_gcd a0 b1 := by kernel_rfl
noncomputable def F_i_gcd : Ins c_i_gcd.ins → Option Int := fun x => i_gcd x.1 x.2.1
noncomputable def S_i_gcd : FSpec := mkF c_i_gcd.env.pre c_i_gcd.ins c_i_gcd.out c_i_gcd.inj F_i_gcd
theorem h_i_gcd : Cert Try.prog 171 S_i_gcd := FnCx.certF (c := c_i_gcd) F_i_gcd (tyOk _ _ _) (spOk trivial) (fun _ _ _ _ _ hs => evDr_ok (tyOk _ _ _) hs follows) Try.func171 rfl rfl Try.ntmps171 (by kernel_rfl) rfl rfl (fun _ => rfl) i_gcd_ts i_gcd_hs (fun x t hb ht => by
  obtain ⟨a0, b1, _⟩ := x
  exact (i_gcd_e a0 b1).trans ht)
/-! impl.part -/
noncomputable def c_i_part : FnCx := { env := env 19 [(171, S_i_gcd)] [], body := bodyOf Try.f199, res := [.tmp 4, .tmp 5, .tmp 6], ins := [.ro kint, .ro kint], out := [(kint, true), (kint, true), (kbool, true)], T := Int × Int × Bool, fin := fun r => (r.1.1, r.1.2.1, r.1.2.2.1), inj := fun t => ((t.1, t.2.1, t.2.2, ()), ((), (), ())), pts := [], fuel := 400, dr := evDr (env 19 [(171, S_i_gcd)] []) }
noncomputable def i_part (n0 : Int) (d1 : Int) : Option (Int × Int × Bool) :=
  bif decide (d1 ≤ 0) then some (0, 0, false)
  else
    Option.bind (i_gcd n0 d1) fun r =>
      bif r == 0 then none else bif r == 0 then none else some (IntKind.wrap IntKind.i64 (Int.tdiv n0 r), IntKind.wrap IntKind.i64 (Int.tdiv d1 r), true)
theorem i_part_e (n0 : Int) (d1 : Int) : c_i_part.start c_i_part.L (n0, d1, ()) = i_part n0 d1 := by kernel_rfl
noncomputable def F_i_part : Ins c_i_part.ins → Option (Int × Int × Bool) := fun x => i_part x.1 x.2.1
noncomputable def S_i_part : FSpec := mkF c_i_part.env.pre c_i_part.ins c_i_part.out c_i_part.inj F_i_part
theorem h_i_part : Cert Try.prog 199 S_i_part := FnCx.certF (c := c_i_part) F_i_part (tyOk _ _ _) (spOk ⟨h_i_gcd, fun _ _ _ => trivial, trivial⟩) (fun _ _ _ _ _ hs => evDr_ok (tyOk _ _ _) hs follows) Try.func199 rfl rfl Try.ntmps199 (by kernel_rfl) rfl rfl (fun _ => rfl) trivial (fun x => .inl ⟨c_i_part.start () x, fun _ => rfl⟩) (fun x t hb ht => by
  obtain ⟨n0, d1, _⟩ := x
  exact (i_part_e n0 d1).trans ht)
/-! impl.AngleOf -/
noncomputable def c_i_AngleOf : FnCx := { env := env 21 [(219, S_i_Spiral_has), (220, S_i_Spiral_angle), (199, S_i_part)] [], body := bodyOf Try.f86, res := [.tmp 4, .tmp 5, .tmp 6], ins := [.ro kSpiral, .ro kint], out := [(kint, true), (kint, true), (kbool, true)], T := Int × Int × Bool, fin := fun r => (r.1.1, r.1.2.1, r.1.2.2.1), inj := fun t => ((t.1, t.2.1, t.2.2, ()), ((), (), ())), pts := [], fuel := 400, dr := evDr (env 21 [(219, S_i_Spiral_has), (220, S_i_Spiral_angle), (199, S_i_part)] []) }
noncomputable def i_AngleOf (s0_Steps : Int) (s0_Round : Int) (s0_Rise : Int) (step1 : Int) : Option (Int × Int × Bool) :=
  Option.bind (i_Spiral_has s0_Steps s0_Round s0_Rise [step1]) fun r =>
    bif !r then some (0, 0, false)
    else
      Option.bind (i_Spiral_angle s0_Steps s0_Round s0_Rise step1) fun r =>
        Option.bind (i_part r s0_Round) fun r => some (Prod.fst r, Prod.fst (Prod.snd r), Prod.snd (Prod.snd r))
theorem i_AngleOf_e (s0_Steps : Int) (s0_Round : Int) (s0_Rise : Int) (step1 : Int) : c_i_AngleOf.start c_i_AngleOf.L ((s0_Steps, s0_Round, s0_Rise), step1, ()) = i_AngleOf s0_Steps s0_Round s0_Rise step1 := by kernel_rfl
noncomputable def F_i_AngleOf : Ins c_i_AngleOf.ins → Option (Int × Int × Bool) := fun x => i_AngleOf x.1.1 x.1.2.1 x.1.2.2 x.2.1
noncomputable def S_i_AngleOf : FSpec := mkF c_i_AngleOf.env.pre c_i_AngleOf.ins c_i_AngleOf.out c_i_AngleOf.inj F_i_AngleOf
theorem h_i_AngleOf : Cert Try.prog 86 S_i_AngleOf := FnCx.certF (c := c_i_AngleOf) F_i_AngleOf (tyOk _ _ _) (spOk ⟨h_i_Spiral_has, fun _ _ _ => trivial, ⟨h_i_Spiral_angle, fun _ _ _ => trivial, ⟨h_i_part, fun _ _ _ => trivial, trivial⟩⟩⟩) (fun _ _ _ _ _ hs => evDr_ok (tyOk _ _ _) hs follows) Try.func86 rfl rfl Try.ntmps86 (by kernel_rfl) rfl rfl (fun _ => rfl) trivial (fun x => .inl ⟨c_i_AngleOf.start () x, fun _ => rfl⟩) (fun x t hb ht => by
  obtain ⟨⟨s0_Steps, s0_Round, s0_Rise⟩, step1, _⟩ := x
  exact (i_AngleOf_e s0_Steps s0_Round s0_Rise step1).trans ht)
/-! spec.l1In -/
noncomputable def c_s_l1In : FnCx := { env := env 15 [] [], body := bodyOf Try.f176, res := [.tmp 6], ins := [.ro kint, .ro kint, .ro kint], out := [(kbool, true)], T := Bool, fin := fun r => r.1.1, inj := fun t => ((t, ()), ((), (), (), ())), pts := [], fuel := 400, dr := noDr }
noncomputable def s_l1In (n0 : Int) (lo1 : Int) (hi2 : Int) : Bool :=
  bif decide (n0 ≥ lo1) then decide (n0 ≤ hi2) else false
theorem s_l1In_e (n0 : Int) (lo1 : Int) (hi2 : Int) : c_s_l1In.start c_s_l1In.L (n0, lo1, hi2, ()) = some (s_l1In n0 lo1 hi2) := by
  refine Eq.trans (b := (bif decide (n0 ≥ lo1) then some (decide (n0 ≤ hi2)) else some false : Option Bool)) (by kernel_rfl) ?_
  unfold s_l1In
  repeat (first | rfl | apply condS)
noncomputable def F_s_l1In : Ins c_s_l1In.ins → Bool := fun x => s_l1In x.1 x.2.1 x.2.2.1
noncomputable def S_s_l1In : FSpec := mkT c_s_l1In.env.pre c_s_l1In.ins c_s_l1In.out c_s_l1In.inj F_s_l1In
theorem h_s_l1In : Cert Try.prog 176 S_s_l1In := FnCx.certT (c := c_s_l1In) F_s_l1In (tyOk _ _ _) (spOk trivial) (fun _ _ _ _ _ hs => noDr_ok) Try.func176 rfl rfl Try.ntmps176 (by kernel_rfl) rfl rfl (fun _ => rfl) trivial (fun x => .inl ⟨c_s_l1In.start () x, fun _ => rfl⟩) (fun x hb => by
  obtain ⟨n0, lo1, hi2, _⟩ := x
  exact s_l1In_e n0 lo1 hi2)
/-! spec.spGood -/
noncomputable def c_s_spGood : FnCx := { env := env 16 [(176, S_s_l1In)] [], body := bodyOf Try.f230, res := [.tmp 2], ins := [.ro kSpiral], out := [(kbool, true)], T := Bool, fin := fun r => r.1.1, inj := fun t => ((t, ()), ((), ())), pts := [], fuel := 400, dr := noDr }
noncomputable def s_spGood (s0_Steps : Int) (s0_Round : Int) (s0_Rise : Int) : Bool :=
  bif s_l1In s0_Steps 1 400 then bif s_l1In s0_Round 3 60 then s_l1In s0_Rise 1 300 else false else false
theorem s_spGood_e (s0_Steps : Int) (s0_Round : Int) (s0_Rise : Int) : c_s_spGood.start c_s_spGood.L ((s0_Steps, s0_Round, s0_Rise), ()) = some (s_spGood s0_Steps s0_Round s0_Rise) := by
  refine Eq.trans (b := (bif s_l1In s0_Steps 1 400 then bif s_l1In s0_Round 3 60 then some (s_l1In s0_Rise 1 300) else some false else some false : Option Bool)) (by kernel_rfl) ?_
  unfold s_spGood
  repeat (first | rfl | apply condS)
noncomputable def F_s_spGood : Ins c_s_spGood.ins → Bool := fun x => s_spGood x.1.1 x.1.2.1 x.1.2.2
noncomputable def S_s_spGood : FSpec := mkT c_s_spGood.env.pre c_s_spGood.ins c_s_spGood.out c_s_spGood.inj F_s_spGood
theorem h_s_spGood : Cert Try.prog 230 S_s_spGood := FnCx.certT (c := c_s_spGood) F_s_spGood (tyOk _ _ _) (spOk ⟨h_s_l1In, fun _ _ _ => trivial, trivial⟩) (fun _ _ _ _ _ hs => noDr_ok) Try.func230 rfl rfl Try.ntmps230 (by kernel_rfl) rfl rfl (fun _ => rfl) trivial (fun x => .inl ⟨c_s_spGood.start () x, fun _ => rfl⟩) (fun x hb => by
  obtain ⟨⟨s0_Steps, s0_Round, s0_Rise⟩, _⟩ := x
  exact s_spGood_e s0_Steps s0_Round s0_Rise)
/-! spec.spStep -/
noncomputable def c_s_spStep : FnCx := { env := env 13 [(230, S_s_spGood), (176, S_s_l1In)] [], body := bodyOf Try.f221, res := [.tmp 4], ins := [.ro kSpiral, .ro kint], out := [(kbool, true)], T := Bool, fin := fun r => r.1.1, inj := fun t => ((t, ()), ((), (), ())), pts := [], fuel := 400, dr := noDr }
noncomputable def s_spStep (s0_Steps : Int) (s0_Round : Int) (s0_Rise : Int) (step1 : Int) : Bool :=
  bif s_spGood s0_Steps s0_Round s0_Rise then s_l1In step1 1 s0_Steps else false
theorem s_spStep_e (s0_Steps : Int) (s0_Round : Int) (s0_Rise : Int) (step1 : Int) : c_s_spStep.start c_s_spStep.L ((s0_Steps, s0_Round, s0_Rise), step1, ()) = some (s_spStep s0_Steps s0_Round s0_Rise step1) := by
  refine Eq.trans (b := (bif s_spGood s0_Steps s0_Round s0_Rise then some (s_l1In step1 1 s0_Steps) else some false : Option Bool)) (by kernel_rfl) ?_
  unfold s_spStep
  repeat (first | rfl | apply condS)
noncomputable def F_s_spStep : Ins c_s_spStep.ins → Bool := fun x => s_spStep x.1.1 x.1.2.1 x.1.2.2 x.2.1
noncomputable def S_s_spStep : FSpec := mkT c_s_spStep.env.pre c_s_spStep.ins c_s_spStep.out c_s_spStep.inj F_s_spStep
theorem h_s_spStep : Cert Try.prog 221 S_s_spStep := FnCx.certT (c := c_s_spStep) F_s_spStep (tyOk _ _ _) (spOk ⟨h_s_spGood, fun _ _ _ => trivial, ⟨h_s_l1In, fun _ _ _ => trivial, trivial⟩⟩) (fun _ _ _ _ _ hs => noDr_ok) Try.func221 rfl rfl Try.ntmps221 (by kernel_rfl) rfl rfl (fun _ => rfl) trivial (fun x => .inl ⟨c_s_spStep.start () x, fun _ => rfl⟩) (fun x hb => by
  obtain ⟨⟨s0_Steps, s0_Round, s0_Rise⟩, step1, _⟩ := x
  exact s_spStep_e s0_Steps s0_Round s0_Rise step1)
/-! spec.spLow -/
noncomputable def c_s_spLow : FnCx := { env := env 22 [] [], body := bodyOf Try.f222, res := [.tmp 4, .tmp 5], ins := [.ro kint, .ro kint], out := [(kint, true), (kint, true)], T := Int × Int, fin := fun r => (r.1.1, r.1.2.1), inj := fun t => ((t.1, t.2, ()), ((), (), ())), pts := [([.inLoop [1, 1, 0, 0, 0], .inBlock 0, .code [1, 1, 1]], Shape.mk [] [(0, Ss.one (Cs.sc kint)), (1, Ss.one (Cs.sc kint)), (6, Ss.one (Cs.sc kint)), (7, Ss.one (Cs.sc kint))] [Ss.one (Cs.any), Ss.one (Cs.any)])], fuel := 400, dr := evDr (env 22 [] []) }
noncomputable def s_spLow_t1 (g1 : Int → Int → Int → Int → Option (Int × Int)) (num0 : Int) (den1 : Int) (a6 : Int) (b7 : Int) : Option (Int × Int) :=
  bif decide (b7 > 0) then bif b7 == 0 then none else g1 num0 den1 b7 (Int.tmod a6 b7)
  else bif a6 == 0 then none else bif a6 == 0 then none else some (IntKind.wrap IntKind.i64 (Int.tdiv num0 a6), IntKind.wrap IntKind.i64 (Int.tdiv den1 a6))
noncomputable def s_spLow_t0 (g1 : Int → Int → Int → Int → Option (Int × Int)) (num0 : Int) (den1 : Int) : Option (Int × Int) :=
  g1 num0 den1 num0 den1
theorem s_spLow_ts : Tails c_s_spLow.pts c_s_spLow.round :=
  ⟨fun s => by
    obtain ⟨_, ⟨num0, den1, a6, b7, _⟩, ⟨_, _, _⟩⟩ := s
    refine Tail.eq (Y := fun g => s_spLow_t1 (fun num0 den1 a6 b7 => g.1 ((), (num0, den1, a6, b7, ()), ((), (), ()))) num0 den1 a6 b7) ?_ (fun g => by kernel_rfl)
    simp only [s_spLow_t1]; repeat (first | exact Tail.const _ | exact Tail.here _ | exact Tail.there (Tail.here _) | exact Tail.there (Tail.there (Tail.here _)) | exact Tail.there (Tail.there (Tail.there (Tail.here _))) | exact Tail.there (Tail.there (Tail.there (Tail.there (Tail.here _)))) | exact Tail.there (Tail.there (Tail.there (Tail.there (Tail.there (Tail.here _))))) | apply Tail.cond | (apply Tail.bind; intro _)), trivial⟩
theorem s_spLow_hs : ∀ x, Tail c_s_spLow.pts (fun g => c_s_spLow.start g x) := fun x => by
    obtain ⟨num0, den1, _⟩ := x
    refine Tail.eq (Y := fun g => s_spLow_t0 (fun num0 den1 a6 b7 => g.1 ((), (num0, den1, a6, b7, ()), ((), (), ()))) num0 den1) ?_ (fun g => by kernel_rfl)
    simp only [s_spLow_t0]; repeat (first | exact Tail.const _ | exact Tail.here _ | exact Tail.there (Tail.here _) | exact Tail.there (Tail.there (Tail.here _)) | exact Tail.there (Tail.there (Tail.there (Tail.here _))) | exact Tail.there (Tail.there (Tail.there (Tail.there (Tail.here _)))) | exact Tail.there (Tail.there (Tail.there (Tail.there (Tail.there (Tail.here _))))) | apply Tail.cond | (apply Tail.bind; intro _))
noncomputable def s_spLow_L1 (num0 : Int) (den1 : Int) (a6 : Int) (b7 : Int) : Option (Int × Int) := c_s_spLow.L.1 ((), (num0, den1, a6, b7, ()), ((), (), ()))
theorem s_spLow_u1 (num0 : Int) (den1 : Int) (a6 : Int) (b7 : Int) : s_spLow_L1 num0 den1 a6 b7 = s_spLow_t1 s_spLow_L1 num0 den1 a6 b7 :=
  (congrArg (fun g => g.1 ((), (num0, den1, a6, b7, ()), ((), (), ()))) (FnCx.L_eq s_spLow_ts)).trans (by kernel_rfl)
noncomputable def s_spLow (num0 : Int) (den1 : Int) : Option (Int × Int) := s_spLow_t0 s_spLow_L1 num0 den1
theorem s_spLow_e (num0 : Int) (den1 : Int) : c_s_spLow.start c_s_spLow.L (num0, den1, ()) = s_spLow num0 den1 := by kernel_rfl
noncomputable def F_s_spLow : Ins c_s_spLow.ins → Option (Int × Int) := fun x => s_spLow x.1 x.2.1
noncomputable def S_s_spLow : FSpec := mkF c_s_spLow.env.pre c_s_spLow.ins c_s_spLow.out c_s_spLow.inj F_s_spLow
theorem h_s_spLow : Cert Try.prog 222 S_s_spLow := FnCx.certF (c := c_s_spLow) F_s_spLow (tyOk _ _ _) (spOk trivial) (fun _ _ _ _ _ hs => evDr_ok (tyOk _ _ _) hs follows) Try.func222 rfl rfl Try.ntmps222 (by kernel_rfl) rfl rfl (fun _ => rfl) s_spLow_ts s_spLow_hs (fun x t hb ht => by
  obtain ⟨num0, den1, _⟩ := x
  exact (s_spLow_e num0 den1).trans ht)
/-! spec.AngleOf -/
noncomputable def c_s_AngleOf : FnCx := { env := env 26 [(221, S_s_spStep), (222, S_s_spLow)] [], body := bodyOf Try.f87, res := [.tmp 4, .tmp 5, .tmp 6], ins := [.ro kSpiral, .ro kint], out := [(kint, true), (kint, true), (kbool, true)], T := Int × Int × Bool, fin := fun r => (r.1.1, r.1.2.1, r.1.2.2.1), inj := fun t => ((t.1, t.2.1, t.2.2, ()), ((), (), ())), pts := [], fuel := 400, dr := evDr (env 26 [(221, S_s_spStep), (222, S_s_spLow)] []) }
noncomputable def s_AngleOf (s0_Steps : Int) (s0_Round : Int) (s0_Rise : Int) (step1 : Int) : Option (Int × Int × Bool) :=
  bif !s_spStep s0_Steps s0_Round s0_Rise step1 then some (0, 0, false)
  else
    bif s0_Round == 0 then none
    else Option.bind (s_spLow (Int.tmod (IntKind.wrap IntKind.i64 (step1 - 1)) s0_Round) s0_Round) fun r => some (Prod.fst r, Prod.snd r, true)
theorem s_AngleOf_e (s0_Steps : Int) (s0_Round : Int) (s0_Rise : Int) (step1 : Int) : c_s_AngleOf.start c_s_AngleOf.L ((s0_Steps, s0_Round, s0_Rise), step1, ()) = s_AngleOf s0_Steps s0_Round s0_Rise step1 := by kernel_rfl
noncomputable def F_s_AngleOf : Ins c_s_AngleOf.ins → Option (Int × Int × Bool) := fun x => s_AngleOf x.1.1 x.1.2.1 x.1.2.2 x.2.1
noncomputable def S_s_AngleOf : FSpec := mkF c_s_AngleOf.env.pre c_s_AngleOf.ins c_s_AngleOf.out c_s_AngleOf.inj F_s_AngleOf
theorem h_s_AngleOf : Cert Try.prog 87 S_s_AngleOf := FnCx.certF (c := c_s_AngleOf) F_s_AngleOf (tyOk _ _ _) (spOk ⟨h_s_spStep, fun _ _ _ => trivial, ⟨h_s_spLow, fun _ _ _ => trivial, trivial⟩⟩) (fun _ _ _ _ _ hs => evDr_ok (tyOk _ _ _) hs follows) Try.func87 rfl rfl Try.ntmps87 (by kernel_rfl) rfl rfl (fun _ => rfl) trivial (fun x => .inl ⟨c_s_AngleOf.start () x, fun _ => rfl⟩) (fun x t hb ht => by
  obtain ⟨⟨s0_Steps, s0_Round, s0_Rise⟩, step1, _⟩ := x
  exact (s_AngleOf_e s0_Steps s0_Round s0_Rise step1).trans ht)
/-! impl.StepsAbove$1 -/
noncomputable def c_i_StepsAbove_c1 : FnCx := { env := env 17 [(220, S_i_Spiral_angle)] [], body := bodyOf Try.f224, res := [.tmp 4], ins := [.ro kint, .ptr 3 kint, .ptr 71 kSpiral], out := [(kbool, true)], T := Bool × Int × (Int × Int × Int), fin := fun r => (r.1.1, r.2.2.1, r.2.2.2.1), inj := fun t => ((t.1, ()), ((), t.2.1, t.2.2, ())), pts := [], fuel := 400, dr := evDr (env 17 [(220, S_i_Spiral_angle)] []) }
noncomputable def i_StepsAbove_c1 (k0 : Int) (x1 : Int) (x2_Steps : Int) (x2_Round : Int) (x2_Rise : Int) : Option (Bool × Int × (Int × Int × Int)) :=
  bif decide (k0 > x1) then
    Option.bind (i_Spiral_angle x2_Steps x2_Round x2_Rise k0) fun r =>
      Option.bind (i_Spiral_angle x2_Steps x2_Round x2_Rise x1) fun r_1 => some (r == r_1, x1, x2_Steps, x2_Round, x2_Rise)
  else some (false, x1, x2_Steps, x2_Round, x2_Rise)
theorem i_StepsAbove_c1_e (k0 : Int) (x1 : Int) (x2_Steps : Int) (x2_Round : Int) (x2_Rise : Int) : c_i_StepsAbove_c1.start c_i_StepsAbove_c1.L (k0, x1, (x2_Steps, x2_Round, x2_Rise), ()) = i_StepsAbove_c1 k0 x1 x2_Steps x2_Round x2_Rise := by kernel_rfl
noncomputable def F_i_StepsAbove_c1 : Ins c_i_StepsAbove_c1.ins → Option (Bool × Int × (Int × Int × Int)) := fun x => i_StepsAbove_c1 x.1 x.2.1 x.2.2.1.1 x.2.2.1.2.1 x.2.2.1.2.2
noncomputable def S_i_StepsAbove_c1 : FSpec := mkF c_i_StepsAbove_c1.env.pre c_i_StepsAbove_c1.ins c_i_StepsAbove_c1.out c_i_StepsAbove_c1.inj F_i_StepsAbove_c1
theorem h_i_StepsAbove_c1 : Cert Try.prog 224 S_i_StepsAbove_c1 := FnCx.certF (c := c_i_StepsAbove_c1) F_i_StepsAbove_c1 (tyOk _ _ _) (spOk ⟨h_i_Spiral_angle, fun _ _ _ => trivial, trivial⟩) (fun _ _ _ _ _ hs => evDr_ok (tyOk _ _ _) hs follows) Try.func224 rfl rfl Try.ntmps224 (by kernel_rfl) rfl rfl (fun _ => rfl) trivial (fun x => .inl ⟨c_i_StepsAbove_c1.start () x, fun _ => rfl⟩) (fun x t hb ht => by
  obtain ⟨k0, x1, ⟨x2_Steps, x2_Round, x2_Rise⟩, _⟩ := x
  exact (i_StepsAbove_c1_e k0 x1 x2_Steps x2_Round x2_Rise).trans ht)
/-! (impl.Spiral).those -/
noncomputable def c_i_Spiral_those__i_StepsAbove_c1 : FnCx := { env := env 22 [(224, S_i_StepsAbove_c1)] [], body := bodyOf Try.f223, res := [.tmp 4], ins := [.ro kSpiral, .fn 224 [(3, kint), (71, kSpiral)]], out := [(kSint, true)], T := List Int × Int × (Int × Int × Int), fin := fun r => (r.1.1, r.2.2.1.1, r.2.2.1.2.1), inj := fun t => ((t.1, ()), ((), (t.2.1, t.2.2, ()), ())), pts := [([.inLoop [1, 1, 0, 1, 0, 0], .inBlock 0, .code [1, 1, 1]], Shape.mk [Bs.box 3 [Cs.sc kint], Bs.box 71 [Cs.sc kint, Cs.sc kint, Cs.sc kint], Bs.box 71 [Cs.sc kint, Cs.sc kint, Cs.sc kint], Bs.row kint 3 true] [(1, Ss.fn 224 [Cs.ptr 0 0, Cs.ptr 1 0]), (2, Ss.one (Cs.ptr 2 0)), (5, Ss.one (Cs.sl 3)), (6, Ss.one (Cs.sc kint))] [Ss.one (Cs.any), Ss.fn 224 [Cs.ptr 0 0, Cs.ptr 1 0]])], fuel := 400, dr := noDr }
noncomputable def i_Spiral_those__i_StepsAbove_c1_t1 (g1 : Int → Int → Int → Int → Int → Int → Int → List (Int) → Int → Option (List Int × Int × (Int × Int × Int))) (b0_0 : Int) (b1_0 : Int) (b1_1 : Int) (b1_2 : Int) (b2_0 : Int) (b2_1 : Int) (b2_2 : Int) (r3 : List (Int)) (k6 : Int) : Option (List Int × Int × (Int × Int × Int)) :=
  bif decide (k6 ≤ b2_0) then
    Option.bind (i_StepsAbove_c1 k6 b0_0 b1_0 b1_1 b1_2) fun r =>
      bif Prod.fst r then
        bif Nat.ble (List.length r3 + 1) 4294967296 then
          g1 (Prod.fst (Prod.snd r)) (Prod.fst (Prod.snd (Prod.snd r))) (Prod.fst (Prod.snd (Prod.snd (Prod.snd r))))
            (Prod.snd (Prod.snd (Prod.snd (Prod.snd r)))) b2_0 b2_1 b2_2 (r3 ++ [k6]) (IntKind.wrap IntKind.i64 (k6 + 1))
        else none
      else
        g1 (Prod.fst (Prod.snd r)) (Prod.fst (Prod.snd (Prod.snd r))) (Prod.fst (Prod.snd (Prod.snd (Prod.snd r)))) (Prod.snd (Prod.snd (Prod.snd (Prod.snd r))))
          b2_0 b2_1 b2_2 r3 (IntKind.wrap IntKind.i64 (k6 + 1))
  else some (r3, b0_0, b1_0, b1_1, b1_2)
noncomputable def i_Spiral_those__i_StepsAbove_c1_t0 (g1 : Int → Int → Int → Int → Int → Int → Int → List (Int) → Int → Option (List Int × Int × (Int × Int × Int))) (s0_Steps : Int) (s0_Round : Int) (s0_Rise : Int) (holds1_0 : Int) (holds1_1_Steps : Int) (holds1_1_Round : Int) (holds1_1_Rise : Int) : Option (List Int × Int × (Int × Int × Int)) :=
  g1 holds1_0 holds1_1_Steps holds1_1_Round holds1_1_Rise s0_Steps s0_Round s0_Rise [] 1
theorem i_Spiral_those__i_StepsAbove_c1_ts : Tails c_i_Spiral_those__i_StepsAbove_c1.pts c_i_Spiral_those__i_StepsAbove_c1.round :=
  ⟨fun s => by
    obtain ⟨⟨⟨b0_0, _⟩, ⟨b1_0, b1_1, b1_2, _⟩, ⟨b2_0, b2_1, b2_2, _⟩, r3, _⟩, ⟨⟨_, _, _⟩, _, _, k6, _⟩, ⟨_, ⟨_, _, _⟩, _⟩⟩ := s
    refine Tail.eq (Y := fun g => i_Spiral_those__i_StepsAbove_c1_t1 (fun b0_0 b1_0 b1_1 b1_2 b2_0 b2_1 b2_2 r3 k6 => g.1 (((b0_0, ()), (b1_0, b1_1, b1_2, ()), (b2_0, b2_1, b2_2, ()), r3, ()), (((), (), ()), (), (), k6, ()), ((), ((), (), ()), ()))) b0_0 b1_0 b1_1 b1_2 b2_0 b2_1 b2_2 r3 k6) ?_ (fun g => by kernel_rfl)
    simp only [i_Spiral_those__i_StepsAbove_c1_t1]; repeat (first | exact Tail.const _ | exact Tail.here _ | exact Tail.there (Tail.here _) | exact Tail.there (Tail.there (Tail.here _)) | exact Tail.there (Tail.there (Tail.there (Tail.here _))) | exact Tail.there (Tail.there (Tail.there (Tail.there (Tail.here _)))) | exact Tail.there (Tail.there (Tail.there (Tail.there (Tail.there (Tail.here _))))) | apply Tail.cond | (apply Tail.bind; intro _)), trivial⟩
theorem i_Spiral_those__i_StepsAbove_c1_hs : ∀ x, Tail c_i_Spiral_those__i_StepsAbove_c1.pts (fun g => c_i_Spiral_those__i_StepsAbove_c1.start g x) := fun x => by
    obtain ⟨⟨s0_Steps, s0_Round, s0_Rise⟩, ⟨holds1_0, ⟨holds1_1_Steps, holds1_1_Round, holds1_1_Rise⟩, _⟩, _⟩ := x
    refine Tail.eq (Y := fun g => i_Spiral_those__i_StepsAbove_c1_t0 (fun b0_0 b1_0 b1_1 b1_2 b2_0 b2_1 b2_2 r3 k6 => g.1 (((b0_0, ()), (b1_0, b1_1, b1_2, ()), (b2_0, b2_1, b2_2, ()), r3, ()), (((), (), ()), (), (), k6, ()), ((), ((), (), ()), ()))) s0_Steps s0_Round s0_Rise holds1_0 holds1_1_Steps holds1_1_Round holds1_1_Rise) ?_ (fun g => by kernel_rfl)
    simp only [i_Spiral_those__i_StepsAbove_c1_t0]; repeat (first | exact Tail.const _ | exact Tail.here _ | exact Tail.there (Tail.here _) | exact Tail.there (Tail.there (Tail.here _)) | exact Tail.there (Tail.there (Tail.there (Tail.here _))) | exact Tail.there (Tail.there (Tail.there (Tail.there (Tail.here _)))) | exact Tail.there (Tail.there (Tail.there (Tail.there (Tail.there (Tail.here _))))) | apply Tail.cond | (apply Tail.bind; intro _))
noncomputable def i_Spiral_those__i_StepsAbove_c1_L1 (b0_0 : Int) (b1_0 : Int) (b1_1 : Int) (b1_2 : Int) (b2_0 : Int) (b2_1 : Int) (b2_2 : Int) (r3 : List (Int)) (k6 : Int) : Option (List Int × Int × (Int × Int × Int)) := c_i_Spiral_those__i_StepsAbove_c1.L.1 (((b0_0, ()), (b1_0, b1_1, b1_2, ()), (b2_0, b2_1, b2_2, ()), r3, ()), (((), (), ()), (), (), k6, ()), ((), ((), (), ()), ()))
theorem i_Spiral_those__i_StepsAbove_c1_u1 (b0_0 : Int) (b1_0 : Int) (b1_1 : Int) (b1_2 : Int) (b2_0 : Int) (b2_1 : Int) (b2_2 : Int) (r3 : List (Int)) (k6 : Int) : i_Spiral_those__i_StepsAbove_c1_L1 b0_0 b1_0 b1_1 b1_2 b2_0 b2_1 b2_2 r3 k6 = i_Spiral_those__i_StepsAbove_c1_t1 i_Spiral_those__i_StepsAbove_c1_L1 b0_0 b1_0 b1_1 b1_2 b2_0 b2_1 b2_2 r3 k6 :=
  (congrArg (fun g => g.1 (((b0_0, ()), (b1_0, b1_1, b1_2, ()), (b2_0, b2_1, b2_2, ()), r3, ()), (((), (), ()), (), (), k6, ()), ((), ((), (), ()), ()))) (FnCx.L_eq i_Spiral_those__i_StepsAbove_c1_ts)).trans (by kernel_rfl)
noncomputable def i_Spiral_those__i_StepsAbove_c1 (s0_Steps : Int) (s0_Round : Int) (s0_Rise : Int) (holds1_0 : Int) (holds1_1_Steps : Int) (holds1_1_Round : Int) (holds1_1_Rise : Int) : Option (List Int × Int × (Int × Int × Int)) := i_Spiral_those__i_StepsAbove_c1_t0 i_Spiral_those__i_StepsAbove_c1_L1 s0_Steps s0_Round s0_Rise holds1_0 holds1_1_Steps holds1_1_Round holds1_1_Rise
theorem i_Spiral_those__i_StepsAbove_c1_e (s0_Steps : Int) (s0_Round : Int) (s0_Rise : Int) (holds1_0 : Int) (holds1_1_Steps : Int) (holds1_1_Round : Int) (holds1_1_Rise : Int) : c_i_Spiral_those__i_StepsAbove_c1.start c_i_Spiral_those__i_StepsAbove_c1.L ((s0_Steps, s0_Round, s0_Rise), (holds1_0, (holds1_1_Steps, holds1_1_Round, holds1_1_Rise), ()), ()) = i_Spiral_those__i_StepsAbove_c1 s0_Steps s0_Round s0_Rise holds1_0 holds1_1_Steps holds1_1_Round holds1_1_Rise := by kernel_rfl
noncomputable def F_i_Spiral_those__i_StepsAbove_c1 : Ins c_i_Spiral_those__i_StepsAbove_c1.ins → Option (List Int × Int × (Int × Int × Int)) := fun x => i_Spiral_those__i_StepsAbove_c1 x.1.1 x.1.2.1 x.1.2.2 x.2.1.1 x.2.1.2.1.1 x.2.1.2.1.2.1 x.2.1.2.1.2.2
noncomputable def S_i_Spiral_those__i_StepsAbove_c1 : FSpec := mkF c_i_Spiral_those__i_StepsAbove_c1.env.pre c_i_Spiral_those__i_StepsAbove_c1.ins c_i_Spiral_those__i_StepsAbove_c1.out c_i_Spiral_those__i_StepsAbove_c1.inj F_i_Spiral_those__i_StepsAbove_c1
theorem h_i_Spiral_those__i_StepsAbove_c1 : Cert Try.prog 223 S_i_Spiral_those__i_StepsAbove_c1 := FnCx.certF (c := c_i_Spiral_those__i_StepsAbove_c1) F_i_Spiral_those__i_StepsAbove_c1 (tyOk _ _ _) (spOk ⟨h_i_StepsAbove_c1, fun _ _ _ => trivial, trivial⟩) (fun _ _ _ _ _ hs => noDr_ok) Try.func223 rfl rfl Try.ntmps223 (by kernel_rfl) rfl rfl (fun _ => rfl) i_Spiral_those__i_StepsAbove_c1_ts i_Spiral_those__i_StepsAbove_c1_hs (fun x t hb ht => by
  obtain ⟨⟨s0_Steps, s0_Round, s0_Rise⟩, ⟨holds1_0, ⟨holds1_1_Steps, holds1_1_Round, holds1_1_Rise⟩, _⟩, _⟩ := x
  exact (i_Spiral_those__i_StepsAbove_c1_e s0_Steps s0_Round s0_Rise holds1_0 holds1_1_Steps holds1_1_Round holds1_1_Rise).trans ht)
/-! impl.StepsAbove -/
noncomputable def c_i_StepsAbove : FnCx := { env := env 14 [(219, S_i_Spiral_has), (223, S_i_Spiral_those__i_StepsAbove_c1)] [], body := bodyOf Try.f88, res := [.tmp 4, .tmp 5], ins := [.ro kSpiral, .ro kint], out := [(kSint, true), (kbool, true)], T := List Int × Bool, fin := fun r => (r.1.1, r.1.2.1), inj := fun t => ((t.1, t.2, ()), ((), (), ())), pts := [], fuel := 400, dr := noDr }
noncomputable def i_StepsAbove (s0_Steps : Int) (s0_Round : Int) (s0_Rise : Int) (step1 : Int) : Option (List Int × Bool) :=
  Option.bind (i_Spiral_has s0_Steps s0_Round s0_Rise [step1]) fun r =>
    bif !r then some ([], false)
    else Option.bind (i_Spiral_those__i_StepsAbove_c1 s0_Steps s0_Round s0_Rise step1 s0_Steps s0_Round s0_Rise) fun r => some (Prod.fst r, true)
theorem i_StepsAbove_e (s0_Steps : Int) (s0_Round : Int) (s0_Rise : Int) (step1 : Int) : c_i_StepsAbove.start c_i_StepsAbove.L ((s0_Steps, s0_Round, s0_Rise), step1, ()) = i_StepsAbove s0_Steps s0_Round s0_Rise step1 := by kernel_rfl
noncomputable def F_i_StepsAbove : Ins c_i_StepsAbove.ins → Option (List Int × Bool) := fun x => i_StepsAbove x.1.1 x.1.2.1 x.1.2.2 x.2.1
noncomputable def S_i_StepsAbove : FSpec := mkF c_i_StepsAbove.env.pre c_i_StepsAbove.ins c_i_StepsAbove.out c_i_StepsAbove.inj F_i_StepsAbove
theorem h_i_StepsAbove : Cert Try.prog 88 S_i_StepsAbove := FnCx.certF (c := c_i_StepsAbove) F_i_StepsAbove (tyOk _ _ _) (spOk ⟨h_i_Spiral_has, fun _ _ _ => trivial, ⟨h_i_Spiral_those__i_StepsAbove_c1, fun _ _ _ => trivial, trivial⟩⟩) (fun _ _ _ _ _ hs => noDr_ok) Try.func88 rfl rfl Try.ntmps88 (by kernel_rfl) rfl rfl (fun _ => rfl) trivial (fun x => .inl ⟨c_i_StepsAbove.start () x, fun _ => rfl⟩) (fun x t hb ht => by
  obtain ⟨⟨s0_Steps, s0_Round, s0_Rise⟩, step1, _⟩ := x
  exact (i_StepsAbove_e s0_Steps s0_Round s0_Rise step1).trans ht)
/-! spec.StepsAbove -/
noncomputable def c_s_StepsAbove : FnCx := { env := env 29 [(221, S_s_spStep)] [], body := bodyOf Try.f89, res := [.tmp 4, .tmp 5], ins := [.ro kSpiral, .ro kint], out := [(kSint, true), (kbool, true)], T := List Int × Bool, fin := fun r => (r.1.1, r.1.2.1), inj := fun t => ((t.1, t.2, ()), ((), (), ())), pts := [([.inLoop [1, 1, 1, 0, 1, 0, 0], .inBlock 0, .code [1, 1, 1, 1]], Shape.mk [Bs.box 71 [Cs.sc kint, Cs.sc kint, Cs.sc kint], Bs.row kint 3 true] [(2, Ss.one (Cs.ptr 0 0)), (6, Ss.one (Cs.sl 1)), (7, Ss.one (Cs.sc kint))] [Ss.one (Cs.any), Ss.one (Cs.any)])], fuel := 400, dr := noDr }
noncomputable def s_StepsAbove_t1 (g1 : Int → Int → Int → List (Int) → Int → Option (List Int × Bool)) (b0_0 : Int) (b0_1 : Int) (b0_2 : Int) (r1 : List (Int)) (above7 : Int) : Option (List Int × Bool) :=
  bif decide (above7 ≤ b0_0) then
    bif Nat.ble (List.length r1 + 1) 4294967296 then g1 b0_0 b0_1 b0_2 (r1 ++ [above7]) (IntKind.wrap IntKind.i64 (above7 + b0_1)) else none
  else some (r1, true)
noncomputable def s_StepsAbove_t0 (g1 : Int → Int → Int → List (Int) → Int → Option (List Int × Bool)) (s0_Steps : Int) (s0_Round : Int) (s0_Rise : Int) (step1 : Int) : Option (List Int × Bool) :=
  bif !s_spStep s0_Steps s0_Round s0_Rise step1 then some ([], false) else g1 s0_Steps s0_Round s0_Rise [] (IntKind.wrap IntKind.i64 (step1 + s0_Round))
theorem s_StepsAbove_ts : Tails c_s_StepsAbove.pts c_s_StepsAbove.round :=
  ⟨fun s => by
    obtain ⟨⟨⟨b0_0, b0_1, b0_2, _⟩, r1, _⟩, ⟨_, _, above7, _⟩, ⟨_, _, _⟩⟩ := s
    refine Tail.eq (Y := fun g => s_StepsAbove_t1 (fun b0_0 b0_1 b0_2 r1 above7 => g.1 (((b0_0, b0_1, b0_2, ()), r1, ()), ((), (), above7, ()), ((), (), ()))) b0_0 b0_1 b0_2 r1 above7) ?_ (fun g => by kernel_rfl)
    simp only [s_StepsAbove_t1]; repeat (first | exact Tail.const _ | exact Tail.here _ | exact Tail.there (Tail.here _) | exact Tail.there (Tail.there (Tail.here _)) | exact Tail.there (Tail.there (Tail.there (Tail.here _))) | exact Tail.there (Tail.there (Tail.there (Tail.there (Tail.here _)))) | exact Tail.there (Tail.there (Tail.there (Tail.there (Tail.there (Tail.here _))))) | apply Tail.cond | (apply Tail.bind; intro _)), trivial⟩
theorem s_StepsAbove_hs : ∀ x, Tail c_s_StepsAbove.pts (fun g => c_s_StepsAbove.start g x) := fun x => by
    obtain ⟨⟨s0_Steps, s0_Round, s0_Rise⟩, step1, _⟩ := x
    refine Tail.eq (Y := fun g => s_StepsAbove_t0 (fun b0_0 b0_1 b0_2 r1 above7 => g.1 (((b0_0, b0_1, b0_2, ()), r1, ()), ((), (), above7, ()), ((), (), ()))) s0_Steps s0_Round s0_Rise step1) ?_ (fun g => by kernel_rfl)
    simp only [s_StepsAbove_t0]; repeat (first | exact Tail.const _ | exact Tail.here _ | exact Tail.there (Tail.here _) | exact Tail.there (Tail.there (Tail.here _)) | exact Tail.there (Tail.there (Tail.there (Tail.here _))) | exact Tail.there (Tail.there (Tail.there (Tail.there (Tail.here _)))) | exact Tail.there (Tail.there (Tail.there (Tail.there (Tail.there (Tail.here _))))) | apply Tail.cond | (apply Tail.bind; intro _))
noncomputable def s_StepsAbove_L1 (b0_0 : Int) (b0_1 : Int) (b0_2 : Int) (r1 : List (Int)) (above7 : Int) : Option (List Int × Bool) := c_s_StepsAbove.L.1 (((b0_0, b0_1, b0_2, ()), r1, ()), ((), (), above7, ()), ((), (), ()))
theorem s_StepsAbove_u1 (b0_0 : Int) (b0_1 : Int) (b0_2 : Int) (r1 : List (Int)) (above7 : Int) : s_StepsAbove_L1 b0_0 b0_1 b0_2 r1 above7 = s_StepsAbove_t1 s_StepsAbove_L1 b0_0 b0_1 b0_2 r1 above7 :=
  (congrArg (fun g => g.1 (((b0_0, b0_1, b0_2, ()), r1, ()), ((), (), above7, ()), ((), (), ()))) (FnCx.L_eq s_StepsAbove_ts)).trans (by kernel_rfl)
noncomputable def s_StepsAbove (s0_Steps : Int) (s0_Round : Int) (s0_Rise : Int) (step1 : Int) : Option (List Int × Bool) := s_StepsAbove_t0 s_StepsAbove_L1 s0_Steps s0_Round s0_Rise step1
theorem s_StepsAbove_e (s0_Steps : Int) (s0_Round : Int) (s0_Rise : Int) (step1 : Int) : c_s_StepsAbove.start c_s_StepsAbove.L ((s0_Steps, s0_Round, s0_Rise), step1, ()) = s_StepsAbove s0_Steps s0_Round s0_Rise step1 := by kernel_rfl
noncomputable def F_s_StepsAbove : Ins c_s_StepsAbove.ins → Option (List Int × Bool) := fun x => s_StepsAbove x.1.1 x.1.2.1 x.1.2.2 x.2.1
noncomputable def S_s_StepsAbove : FSpec := mkF c_s_StepsAbove.env.pre c_s_StepsAbove.ins c_s_StepsAbove.out c_s_StepsAbove.inj F_s_StepsAbove
theorem h_s_StepsAbove : Cert Try.prog 89 S_s_StepsAbove := FnCx.certF (c := c_s_StepsAbove) F_s_StepsAbove (tyOk _ _ _) (spOk ⟨h_s_spStep, fun _ _ _ => trivial, trivial⟩) (fun _ _ _ _ _ hs => noDr_ok) Try.func89 rfl rfl Try.ntmps89 (by kernel_rfl) rfl rfl (fun _ => rfl) s_StepsAbove_ts s_StepsAbove_hs (fun x t hb ht => by
  obtain ⟨⟨s0_Steps, s0_Round, s0_Rise⟩, step1, _⟩ := x
  exact (s_StepsAbove_e s0_Steps s0_Round s0_Rise step1).trans ht)
/-! impl.HeadOver -/
noncomputable def c_i_HeadOver : FnCx := { env := env 25 [(219, S_i_Spiral_has)] [], body := bodyOf Try.f90, res := [.tmp 4, .tmp 5], ins := [.ro kSpiral, .ro kint], out := [(kint, true), (kbool, true)], T := Int × Bool, fin := fun r => (r.1.1, r.1.2.1), inj := fun t => ((t.1, t.2, ()), ((), (), ())), pts := [], fuel := 400, dr := noDr }
noncomputable def i_HeadOver (s0_Steps : Int) (s0_Round : Int) (s0_Rise : Int) (step1 : Int) : Option (Int × Bool) :=
  Option.bind (i_Spiral_has s0_Steps s0_Round s0_Rise [step1]) fun r =>
    bif !r then some (0, false)
    else bif decide (IntKind.wrap IntKind.i64 (step1 + s0_Round) > s0_Steps) then some (0, false) else some (IntKind.wrap IntKind.i64 (s0_Round * s0_Rise), true)
theorem i_HeadOver_e (s0_Steps : Int) (s0_Round : Int) (s0_Rise : Int) (step1 : Int) : c_i_HeadOver.start c_i_HeadOver.L ((s0_Steps, s0_Round, s0_Rise), step1, ()) = i_HeadOver s0_Steps s0_Round s0_Rise step1 := by kernel_rfl
noncomputable def F_i_HeadOver : Ins c_i_HeadOver.ins → Option (Int × Bool) := fun x => i_HeadOver x.1.1 x.1.2.1 x.1.2.2 x.2.1
noncomputable def S_i_HeadOver : FSpec := mkF c_i_HeadOver.env.pre c_i_HeadOver.ins c_i_HeadOver.out c_i_HeadOver.inj F_i_HeadOver
theorem h_i_HeadOver : Cert Try.prog 90 S_i_HeadOver := FnCx.certF (c := c_i_HeadOver) F_i_HeadOver (tyOk _ _ _) (spOk ⟨h_i_Spiral_has, fun _ _ _ => trivial, trivial⟩) (fun _ _ _ _ _ hs => noDr_ok) Try.func90 rfl rfl Try.ntmps90 (by kernel_rfl) rfl rfl (fun _ => rfl) trivial (fun x => .inl ⟨c_i_HeadOver.start () x, fun _ => rfl⟩) (fun x t hb ht => by
  obtain ⟨⟨s0_Steps, s0_Round, s0_Rise⟩, step1, _⟩ := x
  exact (i_HeadOver_e s0_Steps s0_Round s0_Rise step1).trans ht)
/-! spec.HeadOver -/
noncomputable def c_s_HeadOver : FnCx := { env := env 24 [(221, S_s_spStep)] [], body := bodyOf Try.f91, res := [.tmp 4, .tmp 5], ins := [.ro kSpiral, .ro kint], out := [(kint, true), (kbool, true)], T := Int × Bool, fin := fun r => (r.1.1, r.1.2.1), inj := fun t => ((t.1, t.2, ()), ((), (), ())), pts := [], fuel := 400, dr := noDr }
noncomputable def s_HeadOver (s0_Steps : Int) (s0_Round : Int) (s0_Rise : Int) (step1 : Int) : (Int × Bool) :=
  bif !s_spStep s0_Steps s0_Round s0_Rise step1 then (0, false)
  else bif decide (IntKind.wrap IntKind.i64 (step1 + s0_Round) > s0_Steps) then (0, false) else (IntKind.wrap IntKind.i64 (s0_Round * s0_Rise), true)
theorem s_HeadOver_e (s0_Steps : Int) (s0_Round : Int) (s0_Rise : Int) (step1 : Int) : c_s_HeadOver.start c_s_HeadOver.L ((s0_Steps, s0_Round, s0_Rise), step1, ()) = some (s_HeadOver s0_Steps s0_Round s0_Rise step1) := by
  refine Eq.trans (b := (bif !s_spStep s0_Steps s0_Round s0_Rise step1 then some (0, false) else bif decide (IntKind.wrap IntKind.i64 (step1 + s0_Round) > s0_Steps) then some (0, false) else some (IntKind.wrap IntKind.i64 (s0_Round * s0_Rise), true) : Option (Int × Bool))) (by kernel_rfl) ?_
  unfold s_HeadOver
  repeat (first | rfl | apply condS)
noncomputable def F_s_HeadOver : Ins c_s_HeadOver.ins → (Int × Bool) := fun x => s_HeadOver x.1.1 x.1.2.1 x.1.2.2 x.2.1
noncomputable def S_s_HeadOver : FSpec := mkT c_s_HeadOver.env.pre c_s_HeadOver.ins c_s_HeadOver.out c_s_HeadOver.inj F_s_HeadOver
theorem h_s_HeadOver : Cert Try.prog 91 S_s_HeadOver := FnCx.certT (c := c_s_HeadOver) F_s_HeadOver (tyOk _ _ _) (spOk ⟨h_s_spStep, fun _ _ _ => trivial, trivial⟩) (fun _ _ _ _ _ hs => noDr_ok) Try.func91 rfl rfl Try.ntmps91 (by kernel_rfl) rfl rfl (fun _ => rfl) trivial (fun x => .inl ⟨c_s_HeadOver.start () x, fun _ => rfl⟩) (fun x hb => by
  obtain ⟨⟨s0_Steps, s0_Round, s0_Rise⟩, step1, _⟩ := x
  exact s_HeadOver_e s0_Steps s0_Round s0_Rise step1)
/-! (impl.Spiral).opposite -/
noncomputable def c_i_Spiral_opposite : FnCx := { env := env 22 [] [], body := bodyOf Try.f226, res := [.tmp 6], ins := [.ro kSpiral, .ro kint, .ro kint], out := [(kbool, true)], T := Bool, fin := fun r => r.1.1, inj := fun t => ((t, ()), ((), (), (), ())), pts := [], fuel := 400, dr := evDr (env 22 [] []) }
noncomputable def i_Spiral_opposite (s0_Steps : Int) (s0_Round : Int) (s0_Rise : Int) (a1 : Int) (b2 : Int) : Option Bool :=
  bif IntKind.wrap IntKind.i64 (2 * s0_Round) == 0 then none
  else
    some
      (Int.tmod
          (IntKind.wrap IntKind.i64
            (2 *
              bif decide (IntKind.wrap IntKind.i64 (b2 - a1) > IntKind.wrap IntKind.i64 (a1 - b2)) then IntKind.wrap IntKind.i64 (b2 - a1)
              else IntKind.wrap IntKind.i64 (a1 - b2)))
          (IntKind.wrap IntKind.i64 (2 * s0_Round)) ==
        s0_Round)
theorem i_Spiral_opposite_e (s0_Steps : Int) (s0_Round : Int) (s0_Rise : Int) (a1 : Int) (b2 : Int) : c_i_Spiral_opposite.start c_i_Spiral_opposite.L ((s0_Steps, s0_Round, s0_Rise), a1, b2, ()) = i_Spiral_opposite s0_Steps s0_Round s0_Rise a1 b2 := by kernel_rfl
noncomputable def F_i_Spiral_opposite : Ins c_i_Spiral_opposite.ins → Option Bool := fun x => i_Spiral_opposite x.1.1 x.1.2.1 x.1.2.2 x.2.1 x.2.2.1
noncomputable def S_i_Spiral_opposite : FSpec := mkF c_i_Spiral_opposite.env.pre c_i_Spiral_opposite.ins c_i_Spiral_opposite.out c_i_Spiral_opposite.inj F_i_Spiral_opposite
theorem h_i_Spiral_opposite : Cert Try.prog 226 S_i_Spiral_opposite := FnCx.certF (c := c_i_Spiral_opposite) F_i_Spiral_opposite (tyOk _ _ _) (spOk trivial) (fun _ _ _ _ _ hs => evDr_ok (tyOk _ _ _) hs follows) Try.func226 rfl rfl Try.ntmps226 (by kernel_rfl) rfl rfl (fun _ => rfl) trivial (fun x => .inl ⟨c_i_Spiral_opposite.start () x, fun _ => rfl⟩) (fun x t hb ht => by
  obtain ⟨⟨s0_Steps, s0_Round, s0_Rise⟩, a1, b2, _⟩ := x
  exact (i_Spiral_opposite_e s0_Steps s0_Round s0_Rise a1 b2).trans ht)
/-! impl.OppositeSteps$1 -/
noncomputable def c_i_OppositeSteps_c1 : FnCx := { env := env 9 [(226, S_i_Spiral_opposite)] [], body := bodyOf Try.f225, res := [.tmp 4], ins := [.ro kint, .ptr 71 kSpiral, .ptr 3 kint], out := [(kbool, true)], T := Bool × (Int × Int × Int) × Int, fin := fun r => (r.1.1, r.2.2.1, r.2.2.2.1), inj := fun t => ((t.1, ()), ((), t.2.1, t.2.2, ())), pts := [], fuel := 400, dr := noDr }
noncomputable def i_OppositeSteps_c1 (k0 : Int) (x1_Steps : Int) (x1_Round : Int) (x1_Rise : Int) (x2 : Int) : Option (Bool × (Int × Int × Int) × Int) :=
  Option.bind (i_Spiral_opposite x1_Steps x1_Round x1_Rise k0 x2) fun r => some (r, (x1_Steps, x1_Round, x1_Rise), x2)
theorem i_OppositeSteps_c1_e (k0 : Int) (x1_Steps : Int) (x1_Round : Int) (x1_Rise : Int) (x2 : Int) : c_i_OppositeSteps_c1.start c_i_OppositeSteps_c1.L (k0, (x1_Steps, x1_Round, x1_Rise), x2, ()) = i_OppositeSteps_c1 k0 x1_Steps x1_Round x1_Rise x2 := by kernel_rfl
noncomputable def F_i_OppositeSteps_c1 : Ins c_i_OppositeSteps_c1.ins → Option (Bool × (Int × Int × Int) × Int) := fun x => i_OppositeSteps_c1 x.1 x.2.1.1 x.2.1.2.1 x.2.1.2.2 x.2.2.1
noncomputable def S_i_OppositeSteps_c1 : FSpec := mkF c_i_OppositeSteps_c1.env.pre c_i_OppositeSteps_c1.ins c_i_OppositeSteps_c1.out c_i_OppositeSteps_c1.inj F_i_OppositeSteps_c1
theorem h_i_OppositeSteps_c1 : Cert Try.prog 225 S_i_OppositeSteps_c1 := FnCx.certF (c := c_i_OppositeSteps_c1) F_i_OppositeSteps_c1 (tyOk _ _ _) (spOk ⟨h_i_Spiral_opposite, fun _ _ _ => trivial, trivial⟩) (fun _ _ _ _ _ hs => noDr_ok) Try.func225 rfl rfl Try.ntmps225 (by kernel_rfl) rfl rfl (fun _ => rfl) trivial (fun x => .inl ⟨c_i_OppositeSteps_c1.start () x, fun _ => rfl⟩) (fun x t hb ht => by
  obtain ⟨k0, ⟨x1_Steps, x1_Round, x1_Rise⟩, x2, _⟩ := x
  exact (i_OppositeSteps_c1_e k0 x1_Steps x1_Round x1_Rise x2).trans ht)
/-! (impl.Spiral).those -/
noncomputable def c_i_Spiral_those__i_OppositeSteps_c1 : FnCx := { env := env 22 [(225, S_i_OppositeSteps_c1)] [], body := bodyOf Try.f223, res := [.tmp 4], ins := [.ro kSpiral, .fn 225 [(71, kSpiral), (3, kint)]], out := [(kSint, true)], T := List Int × (Int × Int × Int) × Int, fin := fun r => (r.1.1, r.2.2.1.1, r.2.2.1.2.1), inj := fun t => ((t.1, ()), ((), (t.2.1, t.2.2, ()), ())), pts := [([.inLoop [1, 1, 0, 1, 0, 0], .inBlock 0, .code [1, 1, 1]], Shape.mk [Bs.box 71 [Cs.sc kint, Cs.sc kint, Cs.sc kint], Bs.box 3 [Cs.sc kint], Bs.box 71 [Cs.sc kint, Cs.sc kint, Cs.sc kint], Bs.row kint 3 true] [(1, Ss.fn 225 [Cs.ptr 0 0, Cs.ptr 1 0]), (2, Ss.one (Cs.ptr 2 0)), (5, Ss.one (Cs.sl 3)), (6, Ss.one (Cs.sc kint))] [Ss.one (Cs.any), Ss.fn 225 [Cs.ptr 0 0, Cs.ptr 1 0]])], fuel := 400, dr := noDr }
noncomputable def i_Spiral_those__i_OppositeSteps_c1_t1 (g1 : Int → Int → Int → Int → Int → Int → Int → List (Int) → Int → Option (List Int × (Int × Int × Int) × Int)) (b0_0 : Int) (b0_1 : Int) (b0_2 : Int) (b1_0 : Int) (b2_0 : Int) (b2_1 : Int) (b2_2 : Int) (r3 : List (Int)) (k6 : Int) : Option (List Int × (Int × Int × Int) × Int) :=
  bif decide (k6 ≤ b2_0) then
    Option.bind (i_OppositeSteps_c1 k6 b0_0 b0_1 b0_2 b1_0) fun r =>
      bif Prod.fst r then
        bif Nat.ble (List.length r3 + 1) 4294967296 then
          g1 (Prod.fst (Prod.fst (Prod.snd r))) (Prod.fst (Prod.snd (Prod.fst (Prod.snd r)))) (Prod.snd (Prod.snd (Prod.fst (Prod.snd r))))
            (Prod.snd (Prod.snd r)) b2_0 b2_1 b2_2 (r3 ++ [k6]) (IntKind.wrap IntKind.i64 (k6 + 1))
        else none
      else
        g1 (Prod.fst (Prod.fst (Prod.snd r))) (Prod.fst (Prod.snd (Prod.fst (Prod.snd r)))) (Prod.snd (Prod.snd (Prod.fst (Prod.snd r)))) (Prod.snd (Prod.snd r))
          b2_0 b2_1 b2_2 r3 (IntKind.wrap IntKind.i64 (k6 + 1))
  else some (r3, (b0_0, b0_1, b0_2), b1_0)
noncomputable def i_Spiral_those__i_OppositeSteps_c1_t0 (g1 : Int → Int → Int → Int → Int → Int → Int → List (Int) → Int → Option (List Int × (Int × Int × Int) × Int)) (s0_Steps : Int) (s0_Round : Int) (s0_Rise : Int) (holds1_0_Steps : Int) (holds1_0_Round : Int) (holds1_0_Rise : Int) (holds1_1 : Int) : Option (List Int × (Int × Int × Int) × Int) :=
  g1 holds1_0_Steps holds1_0_Round holds1_0_Rise holds1_1 s0_Steps s0_Round s0_Rise [] 1
theorem i_Spiral_those__i_OppositeSteps_c1_ts : Tails c_i_Spiral_those__i_OppositeSteps_c1.pts c_i_Spiral_those__i_OppositeSteps_c1.round :=
  ⟨fun s => by
    obtain ⟨⟨⟨b0_0, b0_1, b0_2, _⟩, ⟨b1_0, _⟩, ⟨b2_0, b2_1, b2_2, _⟩, r3, _⟩, ⟨⟨_, _, _⟩, _, _, k6, _⟩, ⟨_, ⟨_, _, _⟩, _⟩⟩ := s
    refine Tail.eq (Y := fun g => i_Spiral_those__i_OppositeSteps_c1_t1 (fun b0_0 b0_1 b0_2 b1_0 b2_0 b2_1 b2_2 r3 k6 => g.1 (((b0_0, b0_1, b0_2, ()), (b1_0, ()), (b2_0, b2_1, b2_2, ()), r3, ()), (((), (), ()), (), (), k6, ()), ((), ((), (), ()), ()))) b0_0 b0_1 b0_2 b1_0 b2_0 b2_1 b2_2 r3 k6) ?_ (fun g => by kernel_rfl)
    simp only [i_Spiral_those__i_OppositeSteps_c1_t1]; repeat (first | exact Tail.const _ | exact Tail.here _ | exact Tail.there (Tail.here _) | exact Tail.there (Tail.there (Tail.here _)) | exact Tail.there (Tail.there (Tail.there (Tail.here _))) | exact Tail.there (Tail.there (Tail.there (Tail.there (Tail.here _)))) | exact Tail.there (Tail.there (Tail.there (Tail.there (Tail.there (Tail.here _))))) | apply Tail.cond | (apply Tail.bind; intro _)), trivial⟩
theorem i_Spiral_those__i_OppositeSteps_c1_hs : ∀ x, Tail c_i_Spiral_those__i_OppositeSteps_c1.pts (fun g => c_i_Spiral_those__i_OppositeSteps_c1.start g x) := fun x => by
    obtain ⟨⟨s0_Steps, s0_Round, s0_Rise⟩, ⟨⟨holds1_0_Steps, holds1_0_Round, holds1_0_Rise⟩, holds1_1, _⟩, _⟩ := x
    refine Tail.eq (Y := fun g => i_Spiral_those__i_OppositeSteps_c1_t0 (fun b0_0 b0_1 b0_2 b1_0 b2_0 b2_1 b2_2 r3 k6 => g.1 (((b0_0, b0_1, b0_2, ()), (b1_0, ()), (b2_0, b2_1, b2_2, ()), r3, ()), (((), (), ()), (), (), k6, ()), ((), ((), (), ()), ()))) s0_Steps s0_Round s0_Rise holds1_0_Steps holds1_0_Round holds1_0_Rise holds1_1) ?_ (fun g => by kernel_rfl)
    simp only [i_Spiral_those__i_OppositeSteps_c1_t0]; repeat (first | exact Tail.const _ | exact Tail.here _ | exact Tail.there (Tail.here _) | exact Tail.there (Tail.there (Tail.here _)) | exact Tail.there (Tail.there (Tail.there (Tail.here _))) | exact Tail.there (Tail.there (Tail.there (Tail.there (Tail.here _)))) | exact Tail.there (Tail.there (Tail.there (Tail.there (Tail.there (Tail.here _))))) | apply Tail.cond | (apply Tail.bind; intro _))
noncomputable def i_Spiral_those__i_OppositeSteps_c1_L1 (b0_0 : Int) (b0_1 : Int) (b0_2 : Int) (b1_0 : Int) (b2_0 : Int) (b2_1 : Int) (b2_2 : Int) (r3 : List (Int)) (k6 : Int) : Option (List Int × (Int × Int × Int) × Int) := c_i_Spiral_those__i_OppositeSteps_c1.L.1 (((b0_0, b0_1, b0_2, ()), (b1_0, ()), (b2_0, b2_1, b2_2, ()), r3, ()), (((), (), ()), (), (), k6, ()), ((), ((), (), ()), ()))
theorem i_Spiral_those__i_OppositeSteps_c1_u1 (b0_0 : Int) (b0_1 : Int) (b0_2 : Int) (b1_0 : Int) (b2_0 : Int) (b2_1 : Int) (b2_2 : Int) (r3 : List (Int)) (k6 : Int) : i_Spiral_those__i_OppositeSteps_c1_L1 b0_0 b0_1 b0_2 b1_0 b2_0 b2_1 b2_2 r3 k6 = i_Spiral_those__i_OppositeSteps_c1_t1 i_Spiral_those__i_OppositeSteps_c1_L1 b0_0 b0_1 b0_2 b1_0 b2_0 b2_1 b2_2 r3 k6 :=
  (congrArg (fun g => g.1 (((b0_0, b0_1, b0_2, ()), (b1_0, ()), (b2_0, b2_1, b2_2, ()), r3, ()), (((), (), ()), (), (), k6, ()), ((), ((), (), ()), ()))) (FnCx.L_eq i_Spiral_those__i_OppositeSteps_c1_ts)).trans (by kernel_rfl)
noncomputable def i_Spiral_those__i_OppositeSteps_c1 (s0_Steps : Int) (s0_Round : Int) (s0_Rise : Int) (holds1_0_Steps : Int) (holds1_0_Round : Int) (holds1_0_Rise : Int) (holds1_1 : Int) : Option (List Int × (Int × Int × Int) × Int) := i_Spiral_those__i_OppositeSteps_c1_t0 i_Spiral_those__i_OppositeSteps_c1_L1 s0_Steps s0_Round s0_Rise holds1_0_Steps holds1_0_Round holds1_0_Rise holds1_1
theorem i_Spiral_those__i_OppositeSteps_c1_e (s0_Steps : Int) (s0_Round : Int) (s0_Rise : Int) (holds1_0_Steps : Int) (holds1_0_Round : Int) (holds1_0_Rise : Int) (holds1_1 : Int) : c_i_Spiral_those__i_OppositeSteps_c1.start c_i_Spiral_those__i_OppositeSteps_c1.L ((s0_Steps, s0_Round, s0_Rise), ((holds1_0_Steps, holds1_0_Round, holds1_0_Rise), holds1_1, ()), ()) = i_Spiral_those__i_OppositeSteps_c1 s0_Steps s0_Round s0_Rise holds1_0_Steps holds1_0_Round holds1_0_Rise holds1_1 := by kernel_rfl
noncomputable def F_i_Spiral_those__i_OppositeSteps_c1 : Ins c_i_Spiral_those__i_OppositeSteps_c1.ins → Option (List Int × (Int × Int × Int) × Int) := fun x => i_Spiral_those__i_OppositeSteps_c1 x.1.1 x.1.2.1 x.1.2.2 x.2.1.1.1 x.2.1.1.2.1 x.2.1.1.2.2 x.2.1.2.1
noncomputable def S_i_Spiral_those__i_OppositeSteps_c1 : FSpec := mkF c_i_Spiral_those__i_OppositeSteps_c1.env.pre c_i_Spiral_those__i_OppositeSteps_c1.ins c_i_Spiral_those__i_OppositeSteps_c1.out c_i_Spiral_those__i_OppositeSteps_c1.inj F_i_Spiral_those__i_OppositeSteps_c1
theorem h_i_Spiral_those__i_OppositeSteps_c1 : Cert Try.prog 223 S_i_Spiral_those__i_OppositeSteps_c1 := FnCx.certF (c := c_i_Spiral_those__i_OppositeSteps_c1) F_i_Spiral_those__i_OppositeSteps_c1 (tyOk _ _ _) (spOk ⟨h_i_OppositeSteps_c1, fun _ _ _ => trivial, trivial⟩) (fun _ _ _ _ _ hs => noDr_ok) Try.func223 rfl rfl Try.ntmps223 (by kernel_rfl) rfl rfl (fun _ => rfl) i_Spiral_those__i_OppositeSteps_c1_ts i_Spiral_those__i_OppositeSteps_c1_hs (fun x t hb ht => by
  obtain ⟨⟨s0_Steps, s0_Round, s0_Rise⟩, ⟨⟨holds1_0_Steps, holds1_0_Round, holds1_0_Rise⟩, holds1_1, _⟩, _⟩ := x
  exact (i_Spiral_those__i_OppositeSteps_c1_e s0_Steps s0_Round s0_Rise holds1_0_Steps holds1_0_Round holds1_0_Rise holds1_1).trans ht)
/-! impl.OppositeSteps -/
noncomputable def c_i_OppositeSteps : FnCx := { env := env 14 [(219, S_i_Spiral_has), (223, S_i_Spiral_those__i_OppositeSteps_c1)] [], body := bodyOf Try.f92, res := [.tmp 4, .tmp 5], ins := [.ro kSpiral, .ro kint], out := [(kSint, true), (kbool, true)], T := List Int × Bool, fin := fun r => (r.1.1, r.1.2.1), inj := fun t => ((t.1, t.2, ()), ((), (), ())), pts := [], fuel := 400, dr := noDr }
noncomputable def i_OppositeSteps (s0_Steps : Int) (s0_Round : Int) (s0_Rise : Int) (step1 : Int) : Option (List Int × Bool) :=
  Option.bind (i_Spiral_has s0_Steps s0_Round s0_Rise [step1]) fun r =>
    bif !r then some ([], false)
    else Option.bind (i_Spiral_those__i_OppositeSteps_c1 s0_Steps s0_Round s0_Rise s0_Steps s0_Round s0_Rise step1) fun r => some (Prod.fst r, true)
theorem i_OppositeSteps_e (s0_Steps : Int) (s0_Round : Int) (s0_Rise : Int) (step1 : Int) : c_i_OppositeSteps.start c_i_OppositeSteps.L ((s0_Steps, s0_Round, s0_Rise), step1, ()) = i_OppositeSteps s0_Steps s0_Round s0_Rise step1 := by kernel_rfl
noncomputable def F_i_OppositeSteps : Ins c_i_OppositeSteps.ins → Option (List Int × Bool) := fun x => i_OppositeSteps x.1.1 x.1.2.1 x.1.2.2 x.2.1
noncomputable def S_i_OppositeSteps : FSpec := mkF c_i_OppositeSteps.env.pre c_i_OppositeSteps.ins c_i_OppositeSteps.out c_i_OppositeSteps.inj F_i_OppositeSteps
theorem h_i_OppositeSteps : Cert Try.prog 92 S_i_OppositeSteps := FnCx.certF (c := c_i_OppositeSteps) F_i_OppositeSteps (tyOk _ _ _) (spOk ⟨h_i_Spiral_has, fun _ _ _ => trivial, ⟨h_i_Spiral_those__i_OppositeSteps_c1, fun _ _ _ => trivial, trivial⟩⟩) (fun _ _ _ _ _ hs => noDr_ok) Try.func92 rfl rfl Try.ntmps92 (by kernel_rfl) rfl rfl (fun _ => rfl) trivial (fun x => .inl ⟨c_i_OppositeSteps.start () x, fun _ => rfl⟩) (fun x t hb ht => by
  obtain ⟨⟨s0_Steps, s0_Round, s0_Rise⟩, step1, _⟩ := x
  exact (i_OppositeSteps_e s0_Steps s0_Round s0_Rise step1).trans ht)
/-! spec.l1Most -/
noncomputable def c_s_l1Most : FnCx := { env := env 10 [] [], body := bodyOf Try.f191, res := [.tmp 4], ins := [.ro kint, .ro kint], out := [(kint, true)], T := Int, fin := fun r => r.1.1, inj := fun t => ((t, ()), ((), (), ())), pts := [], fuel := 400, dr := noDr }
noncomputable def s_l1Most (a0 : Int) (b1 : Int) : Int :=
  bif decide (a0 > b1) then a0 else b1
theorem s_l1Most_e (a0 : Int) (b1 : Int) : c_s_l1Most.start c_s_l1Most.L (a0, b1, ()) = some (s_l1Most a0 b1) := by
  refine Eq.trans (b := (bif decide (a0 > b1) then some a0 else some b1 : Option Int)) (by kernel_rfl) ?_
  unfold s_l1Most
  repeat (first | rfl | apply condS)
noncomputable def F_s_l1Most : Ins c_s_l1Most.ins → Int := fun x => s_l1Most x.1 x.2.1
noncomputable def S_s_l1Most : FSpec := mkT c_s_l1Most.env.pre c_s_l1Most.ins c_s_l1Most.out c_s_l1Most.inj F_s_l1Most
theorem h_s_l1Most : Cert Try.prog 191 S_s_l1Most := FnCx.certT (c := c_s_l1Most) F_s_l1Most (tyOk _ _ _) (spOk trivial) (fun _ _ _ _ _ hs => noDr_ok) Try.func191 rfl rfl Try.ntmps191 (by kernel_rfl) rfl rfl (fun _ => rfl) trivial (fun x => .inl ⟨c_s_l1Most.start () x, fun _ => rfl⟩) (fun x hb => by
  obtain ⟨a0, b1, _⟩ := x
  exact s_l1Most_e a0 b1)
/-! spec.l1Abs -/
noncomputable def c_s_l1Abs : FnCx := { env := env 7 [(191, S_s_l1Most)] [], body := bodyOf Try.f198, res := [.tmp 2], ins := [.ro kint], out := [(kint, true)], T := Int, fin := fun r => r.1.1, inj := fun t => ((t, ()), ((), ())), pts := [], fuel := 400, dr := noDr }
noncomputable def s_l1Abs (n0 : Int) : Int :=
  s_l1Most n0 (IntKind.wrap IntKind.i64 (0 - n0))
theorem s_l1Abs_e (n0 : Int) : c_s_l1Abs.start c_s_l1Abs.L (n0, ()) = some (s_l1Abs n0) := by kernel_rfl
noncomputable def F_s_l1Abs : Ins c_s_l1Abs.ins → Int := fun x => s_l1Abs x.1
noncomputable def S_s_l1Abs : FSpec := mkT c_s_l1Abs.env.pre c_s_l1Abs.ins c_s_l1Abs.out c_s_l1Abs.inj F_s_l1Abs
theorem h_s_l1Abs : Cert Try.prog 198 S_s_l1Abs := FnCx.certT (c := c_s_l1Abs) F_s_l1Abs (tyOk _ _ _) (spOk ⟨h_s_l1Most, fun _ _ _ => trivial, trivial⟩) (fun _ _ _ _ _ hs => noDr_ok) Try.func198 rfl rfl Try.ntmps198 (by kernel_rfl) rfl rfl (fun _ => rfl) trivial (fun x => .inl ⟨c_s_l1Abs.start () x, fun _ => rfl⟩) (fun x hb => by
  obtain ⟨n0, _⟩ := x
  exact s_l1Abs_e n0)
/-! spec.spOpposite -/
noncomputable def c_s_spOpposite : FnCx := { env := env 18 [(198, S_s_l1Abs)] [], body := bodyOf Try.f227, res := [.tmp 6], ins := [.ro kSpiral, .ro kint, .ro kint], out := [(kbool, true)], T := Bool, fin := fun r => r.1.1, inj := fun t => ((t, ()), ((), (), (), ())), pts := [], fuel := 400, dr := evDr (env 18 [(198, S_s_l1Abs)] []) }
noncomputable def s_spOpposite (s0_Steps : Int) (s0_Round : Int) (s0_Rise : Int) (a1 : Int) (b2 : Int) : Option Bool :=
  bif s0_Round == 0 then none else some (IntKind.wrap IntKind.i64 (2 * Int.tmod (s_l1Abs (IntKind.wrap IntKind.i64 (a1 - b2))) s0_Round) == s0_Round)
theorem s_spOpposite_e (s0_Steps : Int) (s0_Round : Int) (s0_Rise : Int) (a1 : Int) (b2 : Int) : c_s_spOpposite.start c_s_spOpposite.L ((s0_Steps, s0_Round, s0_Rise), a1, b2, ()) = s_spOpposite s0_Steps s0_Round s0_Rise a1 b2 := by kernel_rfl
noncomputable def F_s_spOpposite : Ins c_s_spOpposite.ins → Option Bool := fun x => s_spOpposite x.1.1 x.1.2.1 x.1.2.2 x.2.1 x.2.2.1
noncomputable def S_s_spOpposite : FSpec := mkF c_s_spOpposite.env.pre c_s_spOpposite.ins c_s_spOpposite.out c_s_spOpposite.inj F_s_spOpposite
theorem h_s_spOpposite : Cert Try.prog 227 S_s_spOpposite := FnCx.certF (c := c_s_spOpposite) F_s_spOpposite (tyOk _ _ _) (spOk ⟨h_s_l1Abs, fun _ _ _ => trivial, trivial⟩) (fun _ _ _ _ _ hs => evDr_ok (tyOk _ _ _) hs follows) Try.func227 rfl rfl Try.ntmps227 (by kernel_rfl) rfl rfl (fun _ => rfl) trivial (fun x => .inl ⟨c_s_spOpposite.start () x, fun _ => rfl⟩) (fun x t hb ht => by
  obtain ⟨⟨s0_Steps, s0_Round, s0_Rise⟩, a1, b2, _⟩ := x
  exact (s_spOpposite_e s0_Steps s0_Round s0_Rise a1 b2).trans ht)
/-! spec.OppositeSteps -/
noncomputable def c_s_OppositeSteps : FnCx := { env := env 27 [(221, S_s_spStep), (227, S_s_spOpposite)] [], body := bodyOf Try.f93, res := [.tmp 4, .tmp 5], ins := [.ro kSpiral, .ro kint], out := [(kSint, true), (kbool, true)], T := List Int × Bool, fin := fun r => (r.1.1, r.1.2.1), inj := fun t => ((t.1, t.2, ()), ((), (), ())), pts := [([.inLoop [1, 1, 1, 0, 1, 0, 0], .inBlock 0, .code [1, 1, 1, 1]], Shape.mk [Bs.box 71 [Cs.sc kint, Cs.sc kint, Cs.sc kint], Bs.row kint 3 true] [(1, Ss.one (Cs.sc kint)), (2, Ss.one (Cs.ptr 0 0)), (6, Ss.one (Cs.sl 1)), (7, Ss.one (Cs.sc kint))] [Ss.one (Cs.any), Ss.one (Cs.any)])], fuel := 400, dr := noDr }
noncomputable def s_OppositeSteps_t1 (g1 : Int → Int → Int → List (Int) → Int → Int → Option (List Int × Bool)) (b0_0 : Int) (b0_1 : Int) (b0_2 : Int) (r1 : List (Int)) (step1 : Int) (other7 : Int) : Option (List Int × Bool) :=
  bif decide (other7 ≤ b0_0) then
    Option.bind (s_spOpposite b0_0 b0_1 b0_2 step1 other7) fun r =>
      bif r then bif Nat.ble (List.length r1 + 1) 4294967296 then g1 b0_0 b0_1 b0_2 (r1 ++ [other7]) step1 (IntKind.wrap IntKind.i64 (other7 + 1)) else none
      else g1 b0_0 b0_1 b0_2 r1 step1 (IntKind.wrap IntKind.i64 (other7 + 1))
  else some (r1, true)
noncomputable def s_OppositeSteps_t0 (g1 : Int → Int → Int → List (Int) → Int → Int → Option (List Int × Bool)) (s0_Steps : Int) (s0_Round : Int) (s0_Rise : Int) (step1 : Int) : Option (List Int × Bool) :=
  bif !s_spStep s0_Steps s0_Round s0_Rise step1 then some ([], false) else g1 s0_Steps s0_Round s0_Rise [] step1 1
theorem s_OppositeSteps_ts : Tails c_s_OppositeSteps.pts c_s_OppositeSteps.round :=
  ⟨fun s => by
    obtain ⟨⟨⟨b0_0, b0_1, b0_2, _⟩, r1, _⟩, ⟨step1, _, _, other7, _⟩, ⟨_, _, _⟩⟩ := s
    refine Tail.eq (Y := fun g => s_OppositeSteps_t1 (fun b0_0 b0_1 b0_2 r1 step1 other7 => g.1 (((b0_0, b0_1, b0_2, ()), r1, ()), (step1, (), (), other7, ()), ((), (), ()))) b0_0 b0_1 b0_2 r1 step1 other7) ?_ (fun g => by kernel_rfl)
    simp only [s_OppositeSteps_t1]; repeat (first | exact Tail.const _ | exact Tail.here _ | exact Tail.there (Tail.here _) | exact Tail.there (Tail.there (Tail.here _)) | exact Tail.there (Tail.there (Tail.there (Tail.here _))) | exact Tail.there (Tail.there (Tail.there (Tail.there (Tail.here _)))) | exact Tail.there (Tail.there (Tail.there (Tail.there (Tail.there (Tail.here _))))) | apply Tail.cond | (apply Tail.bind; intro _)), trivial⟩
theorem s_OppositeSteps_hs : ∀ x, Tail c_s_OppositeSteps.pts (fun g => c_s_OppositeSteps.start g x) := fun x => by
    obtain ⟨⟨s0_Steps, s0_Round, s0_Rise⟩, step1, _⟩ := x
    refine Tail.eq (Y := fun g => s_OppositeSteps_t0 (fun b0_0 b0_1 b0_2 r1 step1 other7 => g.1 (((b0_0, b0_1, b0_2, ()), r1, ()), (step1, (), (), other7, ()), ((), (), ()))) s0_Steps s0_Round s0_Rise step1) ?_ (fun g => by kernel_rfl)
    simp only [s_OppositeSteps_t0]; repeat (first | exact Tail.const _ | exact Tail.here _ | exact Tail.there (Tail.here _) | exact Tail.there (Tail.there (Tail.here _)) | exact Tail.there (Tail.there (Tail.there (Tail.here _))) | exact Tail.there (Tail.there (Tail.there (Tail.there (Tail.here _)))) | exact Tail.there (Tail.there (Tail.there (Tail.there (Tail.there (Tail.here _))))) | apply Tail.cond | (apply Tail.bind; intro _))
noncomputable def s_OppositeSteps_L1 (b0_0 : Int) (b0_1 : Int) (b0_2 : Int) (r1 : List (Int)) (step1 : Int) (other7 : Int) : Option (List Int × Bool) := c_s_OppositeSteps.L.1 (((b0_0, b0_1, b0_2, ()), r1, ()), (step1, (), (), other7, ()), ((), (), ()))
theorem s_OppositeSteps_u1 (b0_0 : Int) (b0_1 : Int) (b0_2 : Int) (r1 : List (Int)) (step1 : Int) (other7 : Int) : s_OppositeSteps_L1 b0_0 b0_1 b0_2 r1 step1 other7 = s_OppositeSteps_t1 s_OppositeSteps_L1 b0_0 b0_1 b0_2 r1 step1 other7 :=
  (congrArg (fun g => g.1 (((b0_0, b0_1, b0_2, ()), r1, ()), (step1, (), (), other7, ()), ((), (), ()))) (FnCx.L_eq s_OppositeSteps_ts)).trans (by kernel_rfl)
noncomputable def s_OppositeSteps (s0_Steps : Int) (s0_Round : Int) (s0_Rise : Int) (step1 : Int) : Option (List Int × Bool) := s_OppositeSteps_t0 s_OppositeSteps_L1 s0_Steps s0_Round s0_Rise step1
theorem s_OppositeSteps_e (s0_Steps : Int) (s0_Round : Int) (s0_Rise : Int) (step1 : Int) : c_s_OppositeSteps.start c_s_OppositeSteps.L ((s0_Steps, s0_Round, s0_Rise), step1, ()) = s_OppositeSteps s0_Steps s0_Round s0_Rise step1 := by kernel_rfl
noncomputable def F_s_OppositeSteps : Ins c_s_OppositeSteps.ins → Option (List Int × Bool) := fun x => s_OppositeSteps x.1.1 x.1.2.1 x.1.2.2 x.2.1
noncomputable def S_s_OppositeSteps : FSpec := mkF c_s_OppositeSteps.env.pre c_s_OppositeSteps.ins c_s_OppositeSteps.out c_s_OppositeSteps.inj F_s_OppositeSteps
theorem h_s_OppositeSteps : Cert Try.prog 93 S_s_OppositeSteps := FnCx.certF (c := c_s_OppositeSteps) F_s_OppositeSteps (tyOk _ _ _) (spOk ⟨h_s_spStep, fun _ _ _ => trivial, ⟨h_s_spOpposite, fun _ _ _ => trivial, trivial⟩⟩) (fun _ _ _ _ _ hs => noDr_ok) Try.func93 rfl rfl Try.ntmps93 (by kernel_rfl) rfl rfl (fun _ => rfl) s_OppositeSteps_ts s_OppositeSteps_hs (fun x t hb ht => by
  obtain ⟨⟨s0_Steps, s0_Round, s0_Rise⟩, step1, _⟩ := x
  exact (s_OppositeSteps_e s0_Steps s0_Round s0_Rise step1).trans ht)
/-! (impl.Spiral).side -/
noncomputable def c_i_Spiral_side : FnCx := { env := env 29 [(220, S_i_Spiral_angle)] [], body := bodyOf Try.f228, res := [.tmp 4], ins := [.ro kSpiral, .ro kint], out := [(kint, true)], T := Int, fin := fun r => r.1.1, inj := fun t => ((t, ()), ((), (), ())), pts := [], fuel := 400, dr := evDr (env 29 [(220, S_i_Spiral_angle)] []) }
noncomputable def i_Spiral_side (s0_Steps : Int) (s0_Round : Int) (s0_Rise : Int) (step1 : Int) : Option Int :=
  Option.bind (i_Spiral_angle s0_Steps s0_Round s0_Rise step1) fun r =>
    bif s0_Round == 0 then none
    else
      bif s0_Round == 0 then none
      else
        bif decide (IntKind.wrap IntKind.i64 (2 * Int.tmod (IntKind.wrap IntKind.i64 (4 * r)) s0_Round) > s0_Round) then
          some (Int.tmod (IntKind.wrap IntKind.i64 (IntKind.wrap IntKind.i64 (Int.tdiv (IntKind.wrap IntKind.i64 (4 * r)) s0_Round) + 1)) 4)
        else some (Int.tmod (IntKind.wrap IntKind.i64 (Int.tdiv (IntKind.wrap IntKind.i64 (4 * r)) s0_Round)) 4)
theorem i_Spiral_side_e (s0_Steps : Int) (s0_Round : Int) (s0_Rise : Int) (step1 : Int) : c_i_Spiral_side.start c_i_Spiral_side.L ((s0_Steps, s0_Round, s0_Rise), step1, ()) = i_Spiral_side s0_Steps s0_Round s0_Rise step1 := by kernel_rfl
noncomputable def F_i_Spiral_side : Ins c_i_Spiral_side.ins → Option Int := fun x => i_Spiral_side x.1.1 x.1.2.1 x.1.2.2 x.2.1
noncomputable def S_i_Spiral_side : FSpec := mkF c_i_Spiral_side.env.pre c_i_Spiral_side.ins c_i_Spiral_side.out c_i_Spiral_side.inj F_i_Spiral_side
theorem h_i_Spiral_side : Cert Try.prog 228 S_i_Spiral_side := FnCx.certF (c := c_i_Spiral_side) F_i_Spiral_side (tyOk _ _ _) (spOk ⟨h_i_Spiral_angle, fun _ _ _ => trivial, trivial⟩) (fun _ _ _ _ _ hs => evDr_ok (tyOk _ _ _) hs follows) Try.func228 rfl rfl Try.ntmps228 (by kernel_rfl) rfl rfl (fun _ => rfl) trivial (fun x => .inl ⟨c_i_Spiral_side.start () x, fun _ => rfl⟩) (fun x t hb ht => by
  obtain ⟨⟨s0_Steps, s0_Round, s0_Rise⟩, step1, _⟩ := x
  exact (i_Spiral_side_e s0_Steps s0_Round s0_Rise step1).trans ht)
/-! impl.SideOf -/
noncomputable def c_i_SideOf : FnCx := { env := env 19 [(219, S_i_Spiral_has), (228, S_i_Spiral_side)] [], body := bodyOf Try.f94, res := [.tmp 4, .tmp 5], ins := [.ro kSpiral, .ro kint], out := [(kstring, true), (kbool, true)], T := ByteArray × Bool, fin := fun r => (r.1.1, r.1.2.1), inj := fun t => ((t.1, t.2, ()), ((), (), ())), pts := [], fuel := 400, dr := noDr }
noncomputable def i_SideOf (s0_Steps : Int) (s0_Round : Int) (s0_Rise : Int) (step1 : Int) : Option (ByteArray × Bool) :=
  Option.bind (i_Spiral_has s0_Steps s0_Round s0_Rise [step1]) fun r =>
    bif !r then some ({ data := #[] }, false)
    else
      Option.bind (i_Spiral_side s0_Steps s0_Round s0_Rise step1) fun r =>
        bif decide (0 ≤ IntKind.wrap IntKind.i64 (r + 1)) then
          bif decide (IntKind.wrap IntKind.i64 (r + 1) ≤ (↑(ByteArray.size { data := #[110, 101, 115, 119] }) : Int)) then
            bif decide (0 ≤ r) then
              bif decide (r ≤ IntKind.wrap IntKind.i64 (r + 1)) then
                some (ByteArray.extract { data := #[110, 101, 115, 119] } (Int.toNat r) (Int.toNat (IntKind.wrap IntKind.i64 (r + 1))), true)
              else none
            else none
          else none
        else none
theorem i_SideOf_e (s0_Steps : Int) (s0_Round : Int) (s0_Rise : Int) (step1 : Int) : c_i_SideOf.start c_i_SideOf.L ((s0_Steps, s0_Round, s0_Rise), step1, ()) = i_SideOf s0_Steps s0_Round s0_Rise step1 := by kernel_rfl
noncomputable def F_i_SideOf : Ins c_i_SideOf.ins → Option (ByteArray × Bool) := fun x => i_SideOf x.1.1 x.1.2.1 x.1.2.2 x.2.1
noncomputable def S_i_SideOf : FSpec := mkF c_i_SideOf.env.pre c_i_SideOf.ins c_i_SideOf.out c_i_SideOf.inj F_i_SideOf
theorem h_i_SideOf : Cert Try.prog 94 S_i_SideOf := FnCx.certF (c := c_i_SideOf) F_i_SideOf (tyOk _ _ _) (spOk ⟨h_i_Spiral_has, fun _ _ _ => trivial, ⟨h_i_Spiral_side, fun _ _ _ => trivial, trivial⟩⟩) (fun _ _ _ _ _ hs => noDr_ok) Try.func94 rfl rfl Try.ntmps94 (by kernel_rfl) rfl rfl (fun _ => rfl) trivial (fun x => .inl ⟨c_i_SideOf.start () x, fun _ => rfl⟩) (fun x t hb ht => by
  obtain ⟨⟨s0_Steps, s0_Round, s0_Rise⟩, step1, _⟩ := x
  exact (i_SideOf_e s0_Steps s0_Round s0_Rise step1).trans ht)
/-! spec.spSide -/
noncomputable def c_s_spSide : FnCx := { env := env 25 [] [], body := bodyOf Try.f229, res := [.tmp 4], ins := [.ro kSpiral, .ro kint], out := [(kint, true)], T := Int, fin := fun r => r.1.1, inj := fun t => ((t, ()), ((), (), ())), pts := [([.inLoop [1, 1, 1, 0, 0, 0], .inBlock 0, .code [1, 1, 1, 1]], Shape.mk [Bs.box 71 [Cs.sc kint, Cs.sc kint, Cs.sc kint]] [(2, Ss.one (Cs.ptr 0 0)), (5, Ss.one (Cs.sc kint)), (6, Ss.one (Cs.sc kint))] [Ss.one (Cs.any), Ss.one (Cs.any)])], fuel := 400, dr := noDr }
noncomputable def s_spSide_t1 (g1 : Int → Int → Int → Int → Int → Option (Int)) (b0_0 : Int) (b0_1 : Int) (b0_2 : Int) (at5 : Int) (side6 : Int) : Option Int :=
  bif decide (IntKind.wrap IntKind.i64 (8 * at5) > IntKind.wrap IntKind.i64 (b0_1 * IntKind.wrap IntKind.i64 (IntKind.wrap IntKind.i64 (2 * side6) + 1))) then
    g1 b0_0 b0_1 b0_2 at5 (IntKind.wrap IntKind.i64 (side6 + 1))
  else some (Int.tmod side6 4)
noncomputable def s_spSide_t0 (g1 : Int → Int → Int → Int → Int → Option (Int)) (s0_Steps : Int) (s0_Round : Int) (s0_Rise : Int) (step1 : Int) : Option Int :=
  bif s0_Round == 0 then none else g1 s0_Steps s0_Round s0_Rise (Int.tmod (IntKind.wrap IntKind.i64 (step1 - 1)) s0_Round) 0
theorem s_spSide_ts : Tails c_s_spSide.pts c_s_spSide.round :=
  ⟨fun s => by
    obtain ⟨⟨⟨b0_0, b0_1, b0_2, _⟩, _⟩, ⟨_, at5, side6, _⟩, ⟨_, _, _⟩⟩ := s
    refine Tail.eq (Y := fun g => s_spSide_t1 (fun b0_0 b0_1 b0_2 at5 side6 => g.1 (((b0_0, b0_1, b0_2, ()), ()), ((), at5, side6, ()), ((), (), ()))) b0_0 b0_1 b0_2 at5 side6) ?_ (fun g => by kernel_rfl)
    simp only [s_spSide_t1]; repeat (first | exact Tail.const _ | exact Tail.here _ | exact Tail.there (Tail.here _) | exact Tail.there (Tail.there (Tail.here _)) | exact Tail.there (Tail.there (Tail.there (Tail.here _))) | exact Tail.there (Tail.there (Tail.there (Tail.there (Tail.here _)))) | exact Tail.there (Tail.there (Tail.there (Tail.there (Tail.there (Tail.here _))))) | apply Tail.cond | (apply Tail.bind; intro _)), trivial⟩
theorem s_spSide_hs : ∀ x, Tail c_s_spSide.pts (fun g => c_s_spSide.start g x) := fun x => by
    obtain ⟨⟨s0_Steps, s0_Round, s0_Rise⟩, step1, _⟩ := x
    refine Tail.eq (Y := fun g => s_spSide_t0 (fun b0_0 b0_1 b0_2 at5 side6 => g.1 (((b0_0, b0_1, b0_2, ()), ()), ((), at5, side6, ()), ((), (), ()))) s0_Steps s0_Round s0_Rise step1) ?_ (fun g => by kernel_rfl)
    simp only [s_spSide_t0]; repeat (first | exact Tail.const _ | exact Tail.here _ | exact Tail.there (Tail.here _) | exact Tail.there (Tail.there (Tail.here _)) | exact Tail.there (Tail.there (Tail.there (Tail.here _))) | exact Tail.there (Tail.there (Tail.there (Tail.there (Tail.here _)))) | exact Tail.there (Tail.there (Tail.there (Tail.there (Tail.there (Tail.here _))))) | apply Tail.cond | (apply Tail.bind; intro _))
noncomputable def s_spSide_L1 (b0_0 : Int) (b0_1 : Int) (b0_2 : Int) (at5 : Int) (side6 : Int) : Option Int := c_s_spSide.L.1 (((b0_0, b0_1, b0_2, ()), ()), ((), at5, side6, ()), ((), (), ()))
theorem s_spSide_u1 (b0_0 : Int) (b0_1 : Int) (b0_2 : Int) (at5 : Int) (side6 : Int) : s_spSide_L1 b0_0 b0_1 b0_2 at5 side6 = s_spSide_t1 s_spSide_L1 b0_0 b0_1 b0_2 at5 side6 :=
  (congrArg (fun g => g.1 (((b0_0, b0_1, b0_2, ()), ()), ((), at5, side6, ()), ((), (), ()))) (FnCx.L_eq s_spSide_ts)).trans (by kernel_rfl)
noncomputable def s_spSide (s0_Steps : Int) (s0_Round : Int) (s0_Rise : Int) (step1 : Int) : Option Int := s_spSide_t0 s_spSide_L1 s0_Steps s0_Round s0_Rise step1
theorem s_spSide_e (s0_Steps : Int) (s0_Round : Int) (s0_Rise : Int) (step1 : Int) : c_s_spSide.start c_s_spSide.L ((s0_Steps, s0_Round, s0_Rise), step1, ()) = s_spSide s0_Steps s0_Round s0_Rise step1 := by kernel_rfl
noncomputable def F_s_spSide : Ins c_s_spSide.ins → Option Int := fun x => s_spSide x.1.1 x.1.2.1 x.1.2.2 x.2.1
noncomputable def S_s_spSide : FSpec := mkF c_s_spSide.env.pre c_s_spSide.ins c_s_spSide.out c_s_spSide.inj F_s_spSide
theorem h_s_spSide : Cert Try.prog 229 S_s_spSide := FnCx.certF (c := c_s_spSide) F_s_spSide (tyOk _ _ _) (spOk trivial) (fun _ _ _ _ _ hs => noDr_ok) Try.func229 rfl rfl Try.ntmps229 (by kernel_rfl) rfl rfl (fun _ => rfl) s_spSide_ts s_spSide_hs (fun x t hb ht => by
  obtain ⟨⟨s0_Steps, s0_Round, s0_Rise⟩, step1, _⟩ := x
  exact (s_spSide_e s0_Steps s0_Round s0_Rise step1).trans ht)
/-! spec.SideOf -/
noncomputable def c_s_SideOf : FnCx := { env := env 18 [(221, S_s_spStep), (229, S_s_spSide)] [], body := bodyOf Try.f95, res := [.tmp 4, .tmp 5], ins := [.ro kSpiral, .ro kint], out := [(kstring, true), (kbool, true)], T := ByteArray × Bool, fin := fun r => (r.1.1, r.1.2.1), inj := fun t => ((t.1, t.2, ()), ((), (), ())), pts := [], fuel := 400, dr := noDr }
noncomputable def s_SideOf (s0_Steps : Int) (s0_Round : Int) (s0_Rise : Int) (step1 : Int) : Option (ByteArray × Bool) :=
  bif !s_spStep s0_Steps s0_Round s0_Rise step1 then some ({ data := #[] }, false)
  else
    Option.bind (s_spSide s0_Steps s0_Round s0_Rise step1) fun r =>
      bif decide (0 ≤ IntKind.wrap IntKind.i64 (r + 1)) then
        bif decide (IntKind.wrap IntKind.i64 (r + 1) ≤ (↑(ByteArray.size { data := #[110, 101, 115, 119] }) : Int)) then
          bif decide (0 ≤ r) then
            bif decide (r ≤ IntKind.wrap IntKind.i64 (r + 1)) then
              some (ByteArray.extract { data := #[110, 101, 115, 119] } (Int.toNat r) (Int.toNat (IntKind.wrap IntKind.i64 (r + 1))), true)
            else none
          else none
        else none
      else none
theorem s_SideOf_e (s0_Steps : Int) (s0_Round : Int) (s0_Rise : Int) (step1 : Int) : c_s_SideOf.start c_s_SideOf.L ((s0_Steps, s0_Round, s0_Rise), step1, ()) = s_SideOf s0_Steps s0_Round s0_Rise step1 := by kernel_rfl
noncomputable def F_s_SideOf : Ins c_s_SideOf.ins → Option (ByteArray × Bool) := fun x => s_SideOf x.1.1 x.1.2.1 x.1.2.2 x.2.1
noncomputable def S_s_SideOf : FSpec := mkF c_s_SideOf.env.pre c_s_SideOf.ins c_s_SideOf.out c_s_SideOf.inj F_s_SideOf
theorem h_s_SideOf : Cert Try.prog 95 S_s_SideOf := FnCx.certF (c := c_s_SideOf) F_s_SideOf (tyOk _ _ _) (spOk ⟨h_s_spStep, fun _ _ _ => trivial, ⟨h_s_spSide, fun _ _ _ => trivial, trivial⟩⟩) (fun _ _ _ _ _ hs => noDr_ok) Try.func95 rfl rfl Try.ntmps95 (by kernel_rfl) rfl rfl (fun _ => rfl) trivial (fun x => .inl ⟨c_s_SideOf.start () x, fun _ => rfl⟩) (fun x t hb ht => by
  obtain ⟨⟨s0_Steps, s0_Round, s0_Rise⟩, step1, _⟩ := x
  exact (s_SideOf_e s0_Steps s0_Round s0_Rise step1).trans ht)
/-! impl.HeightSpiral -/
noncomputable def c_i_HeightSpiral : FnCx := { env := env 15 [(219, S_i_Spiral_has)] [], body := bodyOf Try.f96, res := [.tmp 4, .tmp 5], ins := [.ro kSpiral, .ro kint], out := [(kint, true), (kbool, true)], T := Int × Bool, fin := fun r => (r.1.1, r.1.2.1), inj := fun t => ((t.1, t.2, ()), ((), (), ())), pts := [], fuel := 400, dr := noDr }
noncomputable def i_HeightSpiral (s0_Steps : Int) (s0_Round : Int) (s0_Rise : Int) (step1 : Int) : Option (Int × Bool) :=
  Option.bind (i_Spiral_has s0_Steps s0_Round s0_Rise [step1]) fun r => bif !r then some (0, false) else some (IntKind.wrap IntKind.i64 (step1 * s0_Rise), true)
theorem i_HeightSpiral_e (s0_Steps : Int) (s0_Round : Int) (s0_Rise : Int) (step1 : Int) : c_i_HeightSpiral.start c_i_HeightSpiral.L ((s0_Steps, s0_Round, s0_Rise), step1, ()) = i_HeightSpiral s0_Steps s0_Round s0_Rise step1 := by kernel_rfl
noncomputable def F_i_HeightSpiral : Ins c_i_HeightSpiral.ins → Option (Int × Bool) := fun x => i_HeightSpiral x.1.1 x.1.2.1 x.1.2.2 x.2.1
noncomputable def S_i_HeightSpiral : FSpec := mkF c_i_HeightSpiral.env.pre c_i_HeightSpiral.ins c_i_HeightSpiral.out c_i_HeightSpiral.inj F_i_HeightSpiral
theorem h_i_HeightSpiral : Cert Try.prog 96 S_i_HeightSpiral := FnCx.certF (c := c_i_HeightSpiral) F_i_HeightSpiral (tyOk _ _ _) (spOk ⟨h_i_Spiral_has, fun _ _ _ => trivial, trivial⟩) (fun _ _ _ _ _ hs => noDr_ok) Try.func96 rfl rfl Try.ntmps96 (by kernel_rfl) rfl rfl (fun _ => rfl) trivial (fun x => .inl ⟨c_i_HeightSpiral.start () x, fun _ => rfl⟩) (fun x t hb ht => by
  obtain ⟨⟨s0_Steps, s0_Round, s0_Rise⟩, step1, _⟩ := x
  exact (i_HeightSpiral_e s0_Steps s0_Round s0_Rise step1).trans ht)
/-! spec.HeightSpiral -/
noncomputable def c_s_HeightSpiral : FnCx := { env := env 14 [(221, S_s_spStep)] [], body := bodyOf Try.f97, res := [.tmp 4, .tmp 5], ins := [.ro kSpiral, .ro kint], out := [(kint, true), (kbool, true)], T := Int × Bool, fin := fun r => (r.1.1, r.1.2.1), inj := fun t => ((t.1, t.2, ()), ((), (), ())), pts := [], fuel := 400, dr := noDr }
noncomputable def s_HeightSpiral (s0_Steps : Int) (s0_Round : Int) (s0_Rise : Int) (step1 : Int) : (Int × Bool) :=
  bif !s_spStep s0_Steps s0_Round s0_Rise step1 then (0, false) else (IntKind.wrap IntKind.i64 (step1 * s0_Rise), true)
theorem s_HeightSpiral_e (s0_Steps : Int) (s0_Round : Int) (s0_Rise : Int) (step1 : Int) : c_s_HeightSpiral.start c_s_HeightSpiral.L ((s0_Steps, s0_Round, s0_Rise), step1, ()) = some (s_HeightSpiral s0_Steps s0_Round s0_Rise step1) := by
  refine Eq.trans (b := (bif !s_spStep s0_Steps s0_Round s0_Rise step1 then some (0, false) else some (IntKind.wrap IntKind.i64 (step1 * s0_Rise), true) : Option (Int × Bool))) (by kernel_rfl) ?_
  unfold s_HeightSpiral
  repeat (first | rfl | apply condS)
noncomputable def F_s_HeightSpiral : Ins c_s_HeightSpiral.ins → (Int × Bool) := fun x => s_HeightSpiral x.1.1 x.1.2.1 x.1.2.2 x.2.1
noncomputable def S_s_HeightSpiral : FSpec := mkT c_s_HeightSpiral.env.pre c_s_HeightSpiral.ins c_s_HeightSpiral.out c_s_HeightSpiral.inj F_s_HeightSpiral
theorem h_s_HeightSpiral : Cert Try.prog 97 S_s_HeightSpiral := FnCx.certT (c := c_s_HeightSpiral) F_s_HeightSpiral (tyOk _ _ _) (spOk ⟨h_s_spStep, fun _ _ _ => trivial, trivial⟩) (fun _ _ _ _ _ hs => noDr_ok) Try.func97 rfl rfl Try.ntmps97 (by kernel_rfl) rfl rfl (fun _ => rfl) trivial (fun x => .inl ⟨c_s_HeightSpiral.start () x, fun _ => rfl⟩) (fun x hb => by
  obtain ⟨⟨s0_Steps, s0_Round, s0_Rise⟩, step1, _⟩ := x
  exact s_HeightSpiral_e s0_Steps s0_Round s0_Rise step1)
/-! impl.CountSides -/
noncomputable def c_i_CountSides : FnCx := { env := env 25 [(102, S_i_IsSpiral), (228, S_i_Spiral_side)] [], body := bodyOf Try.f98, res := [.tmp 2, .tmp 3], ins := [.ro kSpiral], out := [(kSint, true), (kbool, true)], T := List Int × Bool, fin := fun r => (r.1.1, r.1.2.1), inj := fun t => ((t.1, t.2, ()), ((), ())), pts := [([.inLoop [1, 1, 1, 0, 1, 0, 0], .inBlock 0, .code [1, 1, 1, 1]], Shape.mk [Bs.box 71 [Cs.sc kint, Cs.sc kint, Cs.sc kint], Bs.row kint 3 true] [(1, Ss.one (Cs.ptr 0 0)), (4, Ss.one (Cs.sl 1)), (5, Ss.one (Cs.sc kint))] [Ss.one (Cs.any)])], fuel := 400, dr := noDr }
noncomputable def i_CountSides_t1 (g1 : Int → Int → Int → List (Int) → Int → Option (List Int × Bool)) (b0_0 : Int) (b0_1 : Int) (b0_2 : Int) (r1 : List (Int)) (k5 : Int) : Option (List Int × Bool) :=
  bif decide (k5 ≤ b0_0) then
    Option.bind (i_Spiral_side b0_0 b0_1 b0_2 k5) fun r =>
      bif decide (0 ≤ r) then
        bif decide (r < (↑(List.length r1) : Int)) then
          bif decide (0 ≤ r) then
            bif decide (r < (↑(List.length r1) : Int)) then
              g1 b0_0 b0_1 b0_2 (List.set r1 (Int.toNat r) (IntKind.wrap IntKind.i64 (rdk kint r1 r + 1))) (IntKind.wrap IntKind.i64 (k5 + 1))
            else none
          else none
        else none
      else none
  else some (r1, true)
noncomputable def i_CountSides_t0 (g1 : Int → Int → Int → List (Int) → Int → Option (List Int × Bool)) (s0_Steps : Int) (s0_Round : Int) (s0_Rise : Int) : Option (List Int × Bool) :=
  bif !i_IsSpiral s0_Steps s0_Round s0_Rise then some ([], false) else g1 s0_Steps s0_Round s0_Rise (List.replicate (Int.toNat 4) (Kd.zero kint)) 1
theorem i_CountSides_ts : Tails c_i_CountSides.pts c_i_CountSides.round :=
  ⟨fun s => by
    obtain ⟨⟨⟨b0_0, b0_1, b0_2, _⟩, r1, _⟩, ⟨_, _, k5, _⟩, ⟨_, _⟩⟩ := s
    refine Tail.eq (Y := fun g => i_CountSides_t1 (fun b0_0 b0_1 b0_2 r1 k5 => g.1 (((b0_0, b0_1, b0_2, ()), r1, ()), ((), (), k5, ()), ((), ()))) b0_0 b0_1 b0_2 r1 k5) ?_ (fun g => by kernel_rfl)
    simp only [i_CountSides_t1]; repeat (first | exact Tail.const _ | exact Tail.here _ | exact Tail.there (Tail.here _) | exact Tail.there (Tail.there (Tail.here _)) | exact Tail.there (Tail.there (Tail.there (Tail.here _))) | exact Tail.there (Tail.there (Tail.there (Tail.there (Tail.here _)))) | exact Tail.there (Tail.there (Tail.there (Tail.there (Tail.there (Tail.here _))))) | apply Tail.cond | (apply Tail.bind; intro _)), trivial⟩
theorem i_CountSides_hs : ∀ x, Tail c_i_CountSides.pts (fun g => c_i_CountSides.start g x) := fun x => by
    obtain ⟨⟨s0_Steps, s0_Round, s0_Rise⟩, _⟩ := x
    refine Tail.eq (Y := fun g => i_CountSides_t0 (fun b0_0 b0_1 b0_2 r1 k5 => g.1 (((b0_0, b0_1, b0_2, ()), r1, ()), ((), (), k5, ()), ((), ()))) s0_Steps s0_Round s0_Rise) ?_ (fun g => by kernel_rfl)
    simp only [i_CountSides_t0]; repeat (first | exact Tail.const _ | exact Tail.here _ | exact Tail.there (Tail.here _) | exact Tail.there (Tail.there (Tail.here _)) | exact Tail.there (Tail.there (Tail.there (Tail.here _))) | exact Tail.there (Tail.there (Tail.there (Tail.there (Tail.here _)))) | exact Tail.there (Tail.there (Tail.there (Tail.there (Tail.there (Tail.here _))))) | apply Tail.cond | (apply Tail.bind; intro _))
noncomputable def i_CountSides_L1 (b0_0 : Int) (b0_1 : Int) (b0_2 : Int) (r1 : List (Int)) (k5 : Int) : Option (List Int × Bool) := c_i_CountSides.L.1 (((b0_0, b0_1, b0_2, ()), r1, ()), ((), (), k5, ()), ((), ()))
theorem i_CountSides_u1 (b0_0 : Int) (b0_1 : Int) (b0_2 : Int) (r1 : List (Int)) (k5 : Int) : i_CountSides_L1 b0_0 b0_1 b0_2 r1 k5 = i_CountSides_t1 i_CountSides_L1 b0_0 b0_1 b0_2 r1 k5 :=
  (congrArg (fun g => g.1 (((b0_0, b0_1, b0_2, ()), r1, ()), ((), (), k5, ()), ((), ()))) (FnCx.L_eq i_CountSides_ts)).trans (by kernel_rfl)
noncomputable def i_CountSides (s0_Steps : Int) (s0_Round : Int) (s0_Rise : Int) : Option (List Int × Bool) := i_CountSides_t0 i_CountSides_L1 s0_Steps s0_Round s0_Rise
theorem i_CountSides_e (s0_Steps : Int) (s0_Round : Int) (s0_Rise : Int) : c_i_CountSides.start c_i_CountSides.L ((s0_Steps, s0_Round, s0_Rise), ()) = i_CountSides s0_Steps s0_Round s0_Rise := by kernel_rfl
noncomputable def F_i_CountSides : Ins c_i_CountSides.ins → Option (List Int × Bool) := fun x => i_CountSides x.1.1 x.1.2.1 x.1.2.2
noncomputable def S_i_CountSides : FSpec := mkF c_i_CountSides.env.pre c_i_CountSides.ins c_i_CountSides.out c_i_CountSides.inj F_i_CountSides
theorem h_i_CountSides : Cert Try.prog 98 S_i_CountSides := FnCx.certF (c := c_i_CountSides) F_i_CountSides (tyOk _ _ _) (spOk ⟨h_i_IsSpiral, fun _ _ _ => trivial, ⟨h_i_Spiral_side, fun _ _ _ => trivial, trivial⟩⟩) (fun _ _ _ _ _ hs => noDr_ok) Try.func98 rfl rfl Try.ntmps98 (by kernel_rfl) rfl rfl (fun _ => rfl) i_CountSides_ts i_CountSides_hs (fun x t hb ht => by
  obtain ⟨⟨s0_Steps, s0_Round, s0_Rise⟩, _⟩ := x
  exact (i_CountSides_e s0_Steps s0_Round s0_Rise).trans ht)
/-! spec.CountSides -/
noncomputable def c_s_CountSides : FnCx := { env := env 25 [(230, S_s_spGood), (229, S_s_spSide)] [], body := bodyOf Try.f99, res := [.tmp 2, .tmp 3], ins := [.ro kSpiral], out := [(kSint, true), (kbool, true)], T := List Int × Bool, fin := fun r => (r.1.1, r.1.2.1), inj := fun t => ((t.1, t.2, ()), ((), ())), pts := [([.inLoop [1, 1, 1, 0, 1, 0, 0], .inBlock 0, .code [1, 1, 1, 1]], Shape.mk [Bs.box 71 [Cs.sc kint, Cs.sc kint, Cs.sc kint], Bs.row kint 3 true] [(1, Ss.one (Cs.ptr 0 0)), (4, Ss.one (Cs.sl 1)), (5, Ss.one (Cs.sc kint))] [Ss.one (Cs.any)])], fuel := 400, dr := noDr }
noncomputable def s_CountSides_t1 (g1 : Int → Int → Int → List (Int) → Int → Option (List Int × Bool)) (b0_0 : Int) (b0_1 : Int) (b0_2 : Int) (r1 : List (Int)) (step5 : Int) : Option (List Int × Bool) :=
  bif decide (step5 ≤ b0_0) then
    Option.bind (s_spSide b0_0 b0_1 b0_2 step5) fun r =>
      bif decide (0 ≤ r) then
        bif decide (r < (↑(List.length r1) : Int)) then
          bif decide (0 ≤ r) then
            bif decide (r < (↑(List.length r1) : Int)) then
              g1 b0_0 b0_1 b0_2 (List.set r1 (Int.toNat r) (IntKind.wrap IntKind.i64 (rdk kint r1 r + 1))) (IntKind.wrap IntKind.i64 (step5 + 1))
            else none
          else none
        else none
      else none
  else some (r1, true)
noncomputable def s_CountSides_t0 (g1 : Int → Int → Int → List (Int) → Int → Option (List Int × Bool)) (s0_Steps : Int) (s0_Round : Int) (s0_Rise : Int) : Option (List Int × Bool) :=
  bif !s_spGood s0_Steps s0_Round s0_Rise then some ([], false) else g1 s0_Steps s0_Round s0_Rise (List.replicate (Int.toNat 4) (Kd.zero kint)) 1
theorem s_CountSides_ts : Tails c_s_CountSides.pts c_s_CountSides.round :=
  ⟨fun s => by
    obtain ⟨⟨⟨b0_0, b0_1, b0_2, _⟩, r1, _⟩, ⟨_, _, step5, _⟩, ⟨_, _⟩⟩ := s
    refine Tail.eq (Y := fun g => s_CountSides_t1 (fun b0_0 b0_1 b0_2 r1 step5 => g.1 (((b0_0, b0_1, b0_2, ()), r1, ()), ((), (), step5, ()), ((), ()))) b0_0 b0_1 b0_2 r1 step5) ?_ (fun g => by kernel_rfl)
    simp only [s_CountSides_t1]; repeat (first | exact Tail.const _ | exact Tail.here _ | exact Tail.there (Tail.here _) | exact Tail.there (Tail.there (Tail.here _)) | exact Tail.there (Tail.there (Tail.there (Tail.here _))) | exact Tail.there (Tail.there (Tail.there (Tail.there (Tail.here _)))) | exact Tail.there (Tail.there (Tail.there (Tail.there (Tail.there (Tail.here _))))) | apply Tail.cond | (apply Tail.bind; intro _)), trivial⟩
theorem s_CountSides_hs : ∀ x, Tail c_s_CountSides.pts (fun g => c_s_CountSides.start g x) := fun x => by
    obtain ⟨⟨s0_Steps, s0_Round, s0_Rise⟩, _⟩ := x
    refine Tail.eq (Y := fun g => s_CountSides_t0 (fun b0_0 b0_1 b0_2 r1 step5 => g.1 (((b0_0, b0_1, b0_2, ()), r1, ()), ((), (), step5, ()), ((), ()))) s0_Steps s0_Round s0_Rise) ?_ (fun g => by kernel_rfl)
    simp only [s_CountSides_t0]; repeat (first | exact Tail.const _ | exact Tail.here _ | exact Tail.there (Tail.here _) | exact Tail.there (Tail.there (Tail.here _)) | exact Tail.there (Tail.there (Tail.there (Tail.here _))) | exact Tail.there (Tail.there (Tail.there (Tail.there (Tail.here _)))) | exact Tail.there (Tail.there (Tail.there (Tail.there (Tail.there (Tail.here _))))) | apply Tail.cond | (apply Tail.bind; intro _))
noncomputable def s_CountSides_L1 (b0_0 : Int) (b0_1 : Int) (b0_2 : Int) (r1 : List (Int)) (step5 : Int) : Option (List Int × Bool) := c_s_CountSides.L.1 (((b0_0, b0_1, b0_2, ()), r1, ()), ((), (), step5, ()), ((), ()))
theorem s_CountSides_u1 (b0_0 : Int) (b0_1 : Int) (b0_2 : Int) (r1 : List (Int)) (step5 : Int) : s_CountSides_L1 b0_0 b0_1 b0_2 r1 step5 = s_CountSides_t1 s_CountSides_L1 b0_0 b0_1 b0_2 r1 step5 :=
  (congrArg (fun g => g.1 (((b0_0, b0_1, b0_2, ()), r1, ()), ((), (), step5, ()), ((), ()))) (FnCx.L_eq s_CountSides_ts)).trans (by kernel_rfl)
noncomputable def s_CountSides (s0_Steps : Int) (s0_Round : Int) (s0_Rise : Int) : Option (List Int × Bool) := s_CountSides_t0 s_CountSides_L1 s0_Steps s0_Round s0_Rise
theorem s_CountSides_e (s0_Steps : Int) (s0_Round : Int) (s0_Rise : Int) : c_s_CountSides.start c_s_CountSides.L ((s0_Steps, s0_Round, s0_Rise), ()) = s_CountSides s0_Steps s0_Round s0_Rise := by kernel_rfl
noncomputable def F_s_CountSides : Ins c_s_CountSides.ins → Option (List Int × Bool) := fun x => s_CountSides x.1.1 x.1.2.1 x.1.2.2
noncomputable def S_s_CountSides : FSpec := mkF c_s_CountSides.env.pre c_s_CountSides.ins c_s_CountSides.out c_s_CountSides.inj F_s_CountSides
theorem h_s_CountSides : Cert Try.prog 99 S_s_CountSides := FnCx.certF (c := c_s_CountSides) F_s_CountSides (tyOk _ _ _) (spOk ⟨h_s_spGood, fun _ _ _ => trivial, ⟨h_s_spSide, fun _ _ _ => trivial, trivial⟩⟩) (fun _ _ _ _ _ hs => noDr_ok) Try.func99 rfl rfl Try.ntmps99 (by kernel_rfl) rfl rfl (fun _ => rfl) s_CountSides_ts s_CountSides_hs (fun x t hb ht => by
  obtain ⟨⟨s0_Steps, s0_Round, s0_Rise⟩, _⟩ := x
  exact (s_CountSides_e s0_Steps s0_Round s0_Rise).trans ht)
/-! impl.TurnsOf -/
noncomputable def c_i_TurnsOf : FnCx := { env := env 17 [(102, S_i_IsSpiral), (199, S_i_part)] [], body := bodyOf Try.f100, res := [.tmp 2, .tmp 3, .tmp 4], ins := [.ro kSpiral], out := [(kint, true), (kint, true), (kbool, true)], T := Int × Int × Bool, fin := fun r => (r.1.1, r.1.2.1, r.1.2.2.1), inj := fun t => ((t.1, t.2.1, t.2.2, ()), ((), ())), pts := [], fuel := 400, dr := noDr }
noncomputable def i_TurnsOf (s0_Steps : Int) (s0_Round : Int) (s0_Rise : Int) : Option (Int × Int × Bool) :=
  bif !i_IsSpiral s0_Steps s0_Round s0_Rise then some (0, 0, false)
  else Option.bind (i_part (IntKind.wrap IntKind.i64 (s0_Steps - 1)) s0_Round) fun r => some (Prod.fst r, Prod.fst (Prod.snd r), Prod.snd (Prod.snd r))
theorem i_TurnsOf_e (s0_Steps : Int) (s0_Round : Int) (s0_Rise : Int) : c_i_TurnsOf.start c_i_TurnsOf.L ((s0_Steps, s0_Round, s0_Rise), ()) = i_TurnsOf s0_Steps s0_Round s0_Rise := by kernel_rfl
noncomputable def F_i_TurnsOf : Ins c_i_TurnsOf.ins → Option (Int × Int × Bool) := fun x => i_TurnsOf x.1.1 x.1.2.1 x.1.2.2
noncomputable def S_i_TurnsOf : FSpec := mkF c_i_TurnsOf.env.pre c_i_TurnsOf.ins c_i_TurnsOf.out c_i_TurnsOf.inj F_i_TurnsOf
theorem h_i_TurnsOf : Cert Try.prog 100 S_i_TurnsOf := FnCx.certF (c := c_i_TurnsOf) F_i_TurnsOf (tyOk _ _ _) (spOk ⟨h_i_IsSpiral, fun _ _ _ => trivial, ⟨h_i_part, fun _ _ _ => trivial, trivial⟩⟩) (fun _ _ _ _ _ hs => noDr_ok) Try.func100 rfl rfl Try.ntmps100 (by kernel_rfl) rfl rfl (fun _ => rfl) trivial (fun x => .inl ⟨c_i_TurnsOf.start () x, fun _ => rfl⟩) (fun x t hb ht => by
  obtain ⟨⟨s0_Steps, s0_Round, s0_Rise⟩, _⟩ := x
  exact (i_TurnsOf_e s0_Steps s0_Round s0_Rise).trans ht)
/-! spec.TurnsOf -/
noncomputable def c_s_TurnsOf : FnCx := { env := env 21 [(230, S_s_spGood), (222, S_s_spLow)] [], body := bodyOf Try.f101, res := [.tmp 2, .tmp 3, .tmp 4], ins := [.ro kSpiral], out := [(kint, true), (kint, true), (kbool, true)], T := Int × Int × Bool, fin := fun r => (r.1.1, r.1.2.1, r.1.2.2.1), inj := fun t => ((t.1, t.2.1, t.2.2, ()), ((), ())), pts := [], fuel := 400, dr := noDr }
noncomputable def s_TurnsOf (s0_Steps : Int) (s0_Round : Int) (s0_Rise : Int) : Option (Int × Int × Bool) :=
  bif !s_spGood s0_Steps s0_Round s0_Rise then some (0, 0, false)
  else Option.bind (s_spLow (IntKind.wrap IntKind.i64 (s0_Steps - 1)) s0_Round) fun r => some (Prod.fst r, Prod.snd r, true)
theorem s_TurnsOf_e (s0_Steps : Int) (s0_Round : Int) (s0_Rise : Int) : c_s_TurnsOf.start c_s_TurnsOf.L ((s0_Steps, s0_Round, s0_Rise), ()) = s_TurnsOf s0_Steps s0_Round s0_Rise := by kernel_rfl
noncomputable def F_s_TurnsOf : Ins c_s_TurnsOf.ins → Option (Int × Int × Bool) := fun x => s_TurnsOf x.1.1 x.1.2.1 x.1.2.2
noncomputable def S_s_TurnsOf : FSpec := mkF c_s_TurnsOf.env.pre c_s_TurnsOf.ins c_s_TurnsOf.out c_s_TurnsOf.inj F_s_TurnsOf
theorem h_s_TurnsOf : Cert Try.prog 101 S_s_TurnsOf := FnCx.certF (c := c_s_TurnsOf) F_s_TurnsOf (tyOk _ _ _) (spOk ⟨h_s_spGood, fun _ _ _ => trivial, ⟨h_s_spLow, fun _ _ _ => trivial, trivial⟩⟩) (fun _ _ _ _ _ hs => noDr_ok) Try.func101 rfl rfl Try.ntmps101 (by kernel_rfl) rfl rfl (fun _ => rfl) trivial (fun x => .inl ⟨c_s_TurnsOf.start () x, fun _ => rfl⟩) (fun x t hb ht => by
  obtain ⟨⟨s0_Steps, s0_Round, s0_Rise⟩, _⟩ := x
  exact (s_TurnsOf_e s0_Steps s0_Round s0_Rise).trans ht)
/-! strings.Contains -/
noncomputable def strings_Contains (s sub : ByteArray) : Option Bool := has1 s sub
noncomputable def F_strings_Contains : Ins [.ro kstring, .ro kstring] → Option Bool := fun x => strings_Contains x.1 x.2.1
noncomputable def S_strings_Contains : FSpec := mkF (T := Bool) WPre.none [.ro kstring, .ro kstring] [(.bool, true)] (fun t => ((t, ()), ((), (), ()))) F_strings_Contains
theorem h_strings_Contains : Cert Try.prog 231 S_strings_Contains := has1_cert lhas rfl ⟨_, Try.func231, rfl, by kernel_rfl⟩
/-! strings.Index -/
noncomputable def strings_Index (s sub : ByteArray) : Option Int := idx1 s sub
noncomputable def F_strings_Index : Ins [.ro kstring, .ro kstring] → Option Int := fun x => strings_Index x.1 x.2.1
noncomputable def S_strings_Index : FSpec := mkF (T := Int) WPre.none [.ro kstring, .ro kstring] [(.int .i64, true)] (fun t => ((t, ()), ((), (), ()))) F_strings_Index
theorem h_strings_Index : Cert Try.prog 233 S_strings_Index := idx1_cert lidx rfl ⟨_, Try.func233, rfl, by kernel_rfl⟩
/-! impl.StepsAtSide$1 -/
noncomputable def c_i_StepsAtSide_c1 : FnCx := { env := env 11 [(228, S_i_Spiral_side), (233, S_strings_Index)] [], body := bodyOf Try.f232, res := [.tmp 4], ins := [.ro kint, .ptr 71 kSpiral, .ptr 9 kstring], out := [(kbool, true)], T := Bool × (Int × Int × Int) × ByteArray, fin := fun r => (r.1.1, r.2.2.1, r.2.2.2.1), inj := fun t => ((t.1, ()), ((), t.2.1, t.2.2, ())), pts := [], fuel := 400, dr := evDr (env 11 [(228, S_i_Spiral_side), (233, S_strings_Index)] []) }
noncomputable def i_StepsAtSide_c1 (k0 : Int) (x1_Steps : Int) (x1_Round : Int) (x1_Rise : Int) (x2 : ByteArray) : Option (Bool × (Int × Int × Int) × ByteArray) :=
  Option.bind (i_Spiral_side x1_Steps x1_Round x1_Rise k0) fun r =>
    Option.bind (strings_Index { data := #[110, 101, 115, 119] } x2) fun r_1 => some (r == r_1, (x1_Steps, x1_Round, x1_Rise), x2)
theorem i_StepsAtSide_c1_e (k0 : Int) (x1_Steps : Int) (x1_Round : Int) (x1_Rise : Int) (x2 : ByteArray) : c_i_StepsAtSide_c1.start c_i_StepsAtSide_c1.L (k0, (x1_Steps, x1_Round, x1_Rise), x2, ()) = i_StepsAtSide_c1 k0 x1_Steps x1_Round x1_Rise x2 := by kernel_rfl
noncomputable def F_i_StepsAtSide_c1 : Ins c_i_StepsAtSide_c1.ins → Option (Bool × (Int × Int × Int) × ByteArray) := fun x => i_StepsAtSide_c1 x.1 x.2.1.1 x.2.1.2.1 x.2.1.2.2 x.2.2.1
noncomputable def S_i_StepsAtSide_c1 : FSpec := mkF c_i_StepsAtSide_c1.env.pre c_i_StepsAtSide_c1.ins c_i_StepsAtSide_c1.out c_i_StepsAtSide_c1.inj F_i_StepsAtSide_c1
theorem h_i_StepsAtSide_c1 : Cert Try.prog 232 S_i_StepsAtSide_c1 := FnCx.certF (c := c_i_StepsAtSide_c1) F_i_StepsAtSide_c1 (tyOk _ _ _) (spOk ⟨h_i_Spiral_side, fun _ _ _ => trivial, ⟨h_strings_Index, fun _ _ _ => trivial, trivial⟩⟩) (fun _ _ _ _ _ hs => evDr_ok (tyOk _ _ _) hs follows) Try.func232 rfl rfl Try.ntmps232 (by kernel_rfl) rfl rfl (fun _ => rfl) trivial (fun x => .inl ⟨c_i_StepsAtSide_c1.start () x, fun _ => rfl⟩) (fun x t hb ht => by
  obtain ⟨k0, ⟨x1_Steps, x1_Round, x1_Rise⟩, x2, _⟩ := x
  exact (i_StepsAtSide_c1_e k0 x1_Steps x1_Round x1_Rise x2).trans ht)
/-! (impl.Spiral).those -/
noncomputable def c_i_Spiral_those__i_StepsAtSide_c1 : FnCx := { env := env 22 [(232, S_i_StepsAtSide_c1)] [], body := bodyOf Try.f223, res := [.tmp 4], ins := [.ro kSpiral, .fn 232 [(71, kSpiral), (9, kstring)]], out := [(kSint, true)], T := List Int × (Int × Int × Int) × ByteArray, fin := fun r => (r.1.1, r.2.2.1.1, r.2.2.1.2.1), inj := fun t => ((t.1, ()), ((), (t.2.1, t.2.2, ()), ())), pts := [([.inLoop [1, 1, 0, 1, 0, 0], .inBlock 0, .code [1, 1, 1]], Shape.mk [Bs.box 71 [Cs.sc kint, Cs.sc kint, Cs.sc kint], Bs.box 9 [Cs.sc kstring], Bs.box 71 [Cs.sc kint, Cs.sc kint, Cs.sc kint], Bs.row kint 3 true] [(1, Ss.fn 232 [Cs.ptr 0 0, Cs.ptr 1 0]), (2, Ss.one (Cs.ptr 2 0)), (5, Ss.one (Cs.sl 3)), (6, Ss.one (Cs.sc kint))] [Ss.one (Cs.any), Ss.fn 232 [Cs.ptr 0 0, Cs.ptr 1 0]])], fuel := 400, dr := noDr }
noncomputable def i_Spiral_those__i_StepsAtSide_c1_t1 (g1 : Int → Int → Int → ByteArray → Int → Int → Int → List (Int) → Int → Option (List Int × (Int × Int × Int) × ByteArray)) (b0_0 : Int) (b0_1 : Int) (b0_2 : Int) (b1_0 : ByteArray) (b2_0 : Int) (b2_1 : Int) (b2_2 : Int) (r3 : List (Int)) (k6 : Int) : Option (List Int × (Int × Int × Int) × ByteArray) :=
  bif decide (k6 ≤ b2_0) then
    Option.bind (i_StepsAtSide_c1 k6 b0_0 b0_1 b0_2 b1_0) fun r =>
      bif Prod.fst r then
        bif Nat.ble (List.length r3 + 1) 4294967296 then
          g1 (Prod.fst (Prod.fst (Prod.snd r))) (Prod.fst (Prod.snd (Prod.fst (Prod.snd r)))) (Prod.snd (Prod.snd (Prod.fst (Prod.snd r))))
            (Prod.snd (Prod.snd r)) b2_0 b2_1 b2_2 (r3 ++ [k6]) (IntKind.wrap IntKind.i64 (k6 + 1))
        else none
      else
        g1 (Prod.fst (Prod.fst (Prod.snd r))) (Prod.fst (Prod.snd (Prod.fst (Prod.snd r)))) (Prod.snd (Prod.snd (Prod.fst (Prod.snd r)))) (Prod.snd (Prod.snd r))
          b2_0 b2_1 b2_2 r3 (IntKind.wrap IntKind.i64 (k6 + 1))
  else some (r3, (b0_0, b0_1, b0_2), b1_0)
noncomputable def i_Spiral_those__i_StepsAtSide_c1_t0 (g1 : Int → Int → Int → ByteArray → Int → Int → Int → List (Int) → Int → Option (List Int × (Int × Int × Int) × ByteArray)) (s0_Steps : Int) (s0_Round : Int) (s0_Rise : Int) (holds1_0_Steps : Int) (holds1_0_Round : Int) (holds1_0_Rise : Int) (holds1_1 : ByteArray) : Option (List Int × (Int × Int × Int) × ByteArray) :=
  g1 holds1_0_Steps holds1_0_Round holds1_0_Rise holds1_1 s0_Steps s0_Round s0_Rise [] 1
theorem i_Spiral_those__i_StepsAtSide_c1_ts : Tails c_i_Spiral_those__i_StepsAtSide_c1.pts c_i_Spiral_those__i_StepsAtSide_c1.round :=
  ⟨fun s => by
    obtain ⟨⟨⟨b0_0, b0_1, b0_2, _⟩, ⟨b1_0, _⟩, ⟨b2_0, b2_1, b2_2, _⟩, r3, _⟩, ⟨⟨_, _, _⟩, _, _, k6, _⟩, ⟨_, ⟨_, _, _⟩, _⟩⟩ := s
    refine Tail.eq (Y := fun g => i_Spiral_those__i_StepsAtSide_c1_t1 (fun b0_0 b0_1 b0_2 b1_0 b2_0 b2_1 b2_2 r3 k6 => g.1 (((b0_0, b0_1, b0_2, ()), (b1_0, ()), (b2_0, b2_1, b2_2, ()), r3, ()), (((), (), ()), (), (), k6, ()), ((), ((), (), ()), ()))) b0_0 b0_1 b0_2 b1_0 b2_0 b2_1 b2_2 r3 k6) ?_ (fun g => by kernel_rfl)
    simp only [i_Spiral_those__i_StepsAtSide_c1_t1]; repeat (first | exact Tail.const _ | exact Tail.here _ | exact Tail.there (Tail.here _) | exact Tail.there (Tail.there (Tail.here _)) | exact Tail.there (Tail.there (Tail.there (Tail.here _))) | exact Tail.there (Tail.there (Tail.there (Tail.there (Tail.here _)))) | exact Tail.there (Tail.there (Tail.there (Tail.there (Tail.there (Tail.here _))))) | apply Tail.cond | (apply Tail.bind; intro _)), trivial⟩
theorem i_Spiral_those__i_StepsAtSide_c1_hs : ∀ x, Tail c_i_Spiral_those__i_StepsAtSide_c1.pts (fun g => c_i_Spiral_those__i_StepsAtSide_c1.start g x) := fun x => by
    obtain ⟨⟨s0_Steps, s0_Round, s0_Rise⟩, ⟨⟨holds1_0_Steps, holds1_0_Round, holds1_0_Rise⟩, holds1_1, _⟩, _⟩ := x
    refine Tail.eq (Y := fun g => i_Spiral_those__i_StepsAtSide_c1_t0 (fun b0_0 b0_1 b0_2 b1_0 b2_0 b2_1 b2_2 r3 k6 => g.1 (((b0_0, b0_1, b0_2, ()), (b1_0, ()), (b2_0, b2_1, b2_2, ()), r3, ()), (((), (), ()), (), (), k6, ()), ((), ((), (), ()), ()))) s0_Steps s0_Round s0_Rise holds1_0_Steps holds1_0_Round holds1_0_Rise holds1_1) ?_ (fun g => by kernel_rfl)
    simp only [i_Spiral_those__i_StepsAtSide_c1_t0]; repeat (first | exact Tail.const _ | exact Tail.here _ | exact Tail.there (Tail.here _) | exact Tail.there (Tail.there (Tail.here _)) | exact Tail.there (Tail.there (Tail.there (Tail.here _))) | exact Tail.there (Tail.there (Tail.there (Tail.there (Tail.here _)))) | exact Tail.there (Tail.there (Tail.there (Tail.there (Tail.there (Tail.here _))))) | apply Tail.cond | (apply Tail.bind; intro _))
noncomputable def i_Spiral_those__i_StepsAtSide_c1_L1 (b0_0 : Int) (b0_1 : Int) (b0_2 : Int) (b1_0 : ByteArray) (b2_0 : Int) (b2_1 : Int) (b2_2 : Int) (r3 : List (Int)) (k6 : Int) : Option (List Int × (Int × Int × Int) × ByteArray) := c_i_Spiral_those__i_StepsAtSide_c1.L.1 (((b0_0, b0_1, b0_2, ()), (b1_0, ()), (b2_0, b2_1, b2_2, ()), r3, ()), (((), (), ()), (), (), k6, ()), ((), ((), (), ()), ()))
theorem i_Spiral_those__i_StepsAtSide_c1_u1 (b0_0 : Int) (b0_1 : Int) (b0_2 : Int) (b1_0 : ByteArray) (b2_0 : Int) (b2_1 : Int) (b2_2 : Int) (r3 : List (Int)) (k6 : Int) : i_Spiral_those__i_StepsAtSide_c1_L1 b0_0 b0_1 b0_2 b1_0 b2_0 b2_1 b2_2 r3 k6 = i_Spiral_those__i_StepsAtSide_c1_t1 i_Spiral_those__i_StepsAtSide_c1_L1 b0_0 b0_1 b0_2 b1_0 b2_0 b2_1 b2_2 r3 k6 :=
  (congrArg (fun g => g.1 (((b0_0, b0_1, b0_2, ()), (b1_0, ()), (b2_0, b2_1, b2_2, ()), r3, ()), (((), (), ()), (), (), k6, ()), ((), ((), (), ()), ()))) (FnCx.L_eq i_Spiral_those__i_StepsAtSide_c1_ts)).trans (by kernel_rfl)
noncomputable def i_Spiral_those__i_StepsAtSide_c1 (s0_Steps : Int) (s0_Round : Int) (s0_Rise : Int) (holds1_0_Steps : Int) (holds1_0_Round : Int) (holds1_0_Rise : Int) (holds1_1 : ByteArray) : Option (List Int × (Int × Int × Int) × ByteArray) := i_Spiral_those__i_StepsAtSide_c1_t0 i_Spiral_those__i_StepsAtSide_c1_L1 s0_Steps s0_Round s0_Rise holds1_0_Steps holds1_0_Round holds1_0_Rise holds1_1
theorem i_Spiral_those__i_StepsAtSide_c1_e (s0_Steps : Int) (s0_Round : Int) (s0_Rise : Int) (holds1_0_Steps : Int) (holds1_0_Round : Int) (holds1_0_Rise : Int) (holds1_1 : ByteArray) : c_i_Spiral_those__i_StepsAtSide_c1.start c_i_Spiral_those__i_StepsAtSide_c1.L ((s0_Steps, s0_Round, s0_Rise), ((holds1_0_Steps, holds1_0_Round, holds1_0_Rise), holds1_1, ()), ()) = i_Spiral_those__i_StepsAtSide_c1 s0_Steps s0_Round s0_Rise holds1_0_Steps holds1_0_Round holds1_0_Rise holds1_1 := by kernel_rfl
noncomputable def F_i_Spiral_those__i_StepsAtSide_c1 : Ins c_i_Spiral_those__i_StepsAtSide_c1.ins → Option (List Int × (Int × Int × Int) × ByteArray) := fun x => i_Spiral_those__i_StepsAtSide_c1 x.1.1 x.1.2.1 x.1.2.2 x.2.1.1.1 x.2.1.1.2.1 x.2.1.1.2.2 x.2.1.2.1
noncomputable def S_i_Spiral_those__i_StepsAtSide_c1 : FSpec := mkF c_i_Spiral_those__i_StepsAtSide_c1.env.pre c_i_Spiral_those__i_StepsAtSide_c1.ins c_i_Spiral_those__i_StepsAtSide_c1.out c_i_Spiral_those__i_StepsAtSide_c1.inj F_i_Spiral_those__i_StepsAtSide_c1
theorem h_i_Spiral_those__i_StepsAtSide_c1 : Cert Try.prog 223 S_i_Spiral_those__i_StepsAtSide_c1 := FnCx.certF (c := c_i_Spiral_those__i_StepsAtSide_c1) F_i_Spiral_those__i_StepsAtSide_c1 (tyOk _ _ _) (spOk ⟨h_i_StepsAtSide_c1, fun _ _ _ => trivial, trivial⟩) (fun _ _ _ _ _ hs => noDr_ok) Try.func223 rfl rfl Try.ntmps223 (by kernel_rfl) rfl rfl (fun _ => rfl) i_Spiral_those__i_StepsAtSide_c1_ts i_Spiral_those__i_StepsAtSide_c1_hs (fun x t hb ht => by
  obtain ⟨⟨s0_Steps, s0_Round, s0_Rise⟩, ⟨⟨holds1_0_Steps, holds1_0_Round, holds1_0_Rise⟩, holds1_1, _⟩, _⟩ := x
  exact (i_Spiral_those__i_StepsAtSide_c1_e s0_Steps s0_Round s0_Rise holds1_0_Steps holds1_0_Round holds1_0_Rise holds1_1).trans ht)
/-! impl.StepsAtSide -/
noncomputable def c_i_StepsAtSide : FnCx := { env := env 22 [(102, S_i_IsSpiral), (231, S_strings_Contains), (223, S_i_Spiral_those__i_StepsAtSide_c1)] [], body := bodyOf Try.f106, res := [.tmp 4, .tmp 5], ins := [.ro kSpiral, .ro kstring], out := [(kSint, true), (kbool, true)], T := List Int × Bool, fin := fun r => (r.1.1, r.1.2.1), inj := fun t => ((t.1, t.2, ()), ((), (), ())), pts := [], fuel := 400, dr := noDr }
noncomputable def i_StepsAtSide (s0_Steps : Int) (s0_Round : Int) (s0_Rise : Int) (side1 : ByteArray) : Option (List Int × Bool) :=
  bif !i_IsSpiral s0_Steps s0_Round s0_Rise then some ([], false)
  else
    bif (↑(ByteArray.size side1) : Int) != 1 then some ([], false)
    else
      Option.bind (strings_Contains { data := #[110, 101, 115, 119] } side1) fun r =>
        bif !r then some ([], false)
        else Option.bind (i_Spiral_those__i_StepsAtSide_c1 s0_Steps s0_Round s0_Rise s0_Steps s0_Round s0_Rise side1) fun r => some (Prod.fst r, true)
theorem i_StepsAtSide_e (s0_Steps : Int) (s0_Round : Int) (s0_Rise : Int) (side1 : ByteArray) : c_i_StepsAtSide.start c_i_StepsAtSide.L ((s0_Steps, s0_Round, s0_Rise), side1, ()) = i_StepsAtSide s0_Steps s0_Round s0_Rise side1 := by kernel_rfl
noncomputable def F_i_StepsAtSide : Ins c_i_StepsAtSide.ins → Option (List Int × Bool) := fun x => i_StepsAtSide x.1.1 x.1.2.1 x.1.2.2 x.2.1
noncomputable def S_i_StepsAtSide : FSpec := mkF c_i_StepsAtSide.env.pre c_i_StepsAtSide.ins c_i_StepsAtSide.out c_i_StepsAtSide.inj F_i_StepsAtSide
theorem h_i_StepsAtSide : Cert Try.prog 106 S_i_StepsAtSide := FnCx.certF (c := c_i_StepsAtSide) F_i_StepsAtSide (tyOk _ _ _) (spOk ⟨h_i_IsSpiral, fun _ _ _ => trivial, ⟨h_strings_Contains, fun _ _ _ => trivial, ⟨h_i_Spiral_those__i_StepsAtSide_c1, fun _ _ _ => trivial, trivial⟩⟩⟩) (fun _ _ _ _ _ hs => noDr_ok) Try.func106 rfl rfl Try.ntmps106 (by kernel_rfl) rfl rfl (fun _ => rfl) trivial (fun x => .inl ⟨c_i_StepsAtSide.start () x, fun _ => rfl⟩) (fun x t hb ht => by
  obtain ⟨⟨s0_Steps, s0_Round, s0_Rise⟩, side1, _⟩ := x
  exact (i_StepsAtSide_e s0_Steps s0_Round s0_Rise side1).trans ht)
/-! spec.StepsAtSide -/
noncomputable def c_s_StepsAtSide : FnCx := { env := env 45 [(230, S_s_spGood), (229, S_s_spSide)] [], body := bodyOf Try.f113, res := [.tmp 4, .tmp 5], ins := [.ro kSpiral, .ro kstring], out := [(kSint, true), (kbool, true)], T := List Int × Bool, fin := fun r => (r.1.1, r.1.2.1), inj := fun t => ((t.1, t.2, ()), ((), (), ())), pts := [([.inLoop [1, 1, 1, 0, 1, 0, 0], .inBlock 0, .code [1, 1, 1, 1]], Shape.mk [Bs.box 71 [Cs.sc kint, Cs.sc kint, Cs.sc kint], Bs.row kint 3 true] [(1, Ss.one (Cs.sc kstring)), (2, Ss.one (Cs.ptr 0 0)), (6, Ss.one (Cs.sl 1)), (7, Ss.one (Cs.sc kint))] [Ss.one (Cs.any), Ss.one (Cs.any)])], fuel := 400, dr := evDr (env 45 [(230, S_s_spGood), (229, S_s_spSide)] []) }
noncomputable def s_StepsAtSide_t1 (g1 : Int → Int → Int → List (Int) → ByteArray → Int → Option (List Int × Bool)) (b0_0 : Int) (b0_1 : Int) (b0_2 : Int) (r1 : List (Int)) (side1 : ByteArray) (step7 : Int) : Option (List Int × Bool) :=
  bif decide (step7 ≤ b0_0) then
    Option.bind (s_spSide b0_0 b0_1 b0_2 step7) fun r =>
      bif decide (0 ≤ r) then
        bif decide (r < (↑(ByteArray.size { data := #[110, 101, 115, 119] }) : Int)) then
          bif decide (0 < (↑(ByteArray.size side1) : Int)) then
            bif bt { data := #[110, 101, 115, 119] } r == bt side1 0 then
              bif Nat.ble (List.length r1 + 1) 4294967296 then g1 b0_0 b0_1 b0_2 (r1 ++ [step7]) side1 (IntKind.wrap IntKind.i64 (step7 + 1)) else none
            else g1 b0_0 b0_1 b0_2 r1 side1 (IntKind.wrap IntKind.i64 (step7 + 1))
          else none
        else none
      else none
  else some (r1, true)
noncomputable def s_StepsAtSide_t0 (g1 : Int → Int → Int → List (Int) → ByteArray → Int → Option (List Int × Bool)) (s0_Steps : Int) (s0_Round : Int) (s0_Rise : Int) (side1 : ByteArray) : Option (List Int × Bool) :=
  bif !s_spGood s0_Steps s0_Round s0_Rise then some ([], false)
  else
    bif !ByteArray.toList side1 == ByteArray.toList { data := #[110] } then
      bif !ByteArray.toList side1 == ByteArray.toList { data := #[101] } then
        bif !ByteArray.toList side1 == ByteArray.toList { data := #[115] } then
          bif !ByteArray.toList side1 == ByteArray.toList { data := #[119] } then some ([], false) else g1 s0_Steps s0_Round s0_Rise [] side1 1
        else g1 s0_Steps s0_Round s0_Rise [] side1 1
      else g1 s0_Steps s0_Round s0_Rise [] side1 1
    else g1 s0_Steps s0_Round s0_Rise [] side1 1
theorem s_StepsAtSide_ts : Tails c_s_StepsAtSide.pts c_s_StepsAtSide.round :=
  ⟨fun s => by
    obtain ⟨⟨⟨b0_0, b0_1, b0_2, _⟩, r1, _⟩, ⟨side1, _, _, step7, _⟩, ⟨_, _, _⟩⟩ := s
    refine Tail.eq (Y := fun g => s_StepsAtSide_t1 (fun b0_0 b0_1 b0_2 r1 side1 step7 => g.1 (((b0_0, b0_1, b0_2, ()), r1, ()), (side1, (), (), step7, ()), ((), (), ()))) b0_0 b0_1 b0_2 r1 side1 step7) ?_ (fun g => by kernel_rfl)
    simp only [s_StepsAtSide_t1]; repeat (first | apply Tail.cond | (apply Tail.bind; intro _) | exact Tail.here _ | exact Tail.there (Tail.here _) | exact Tail.there (Tail.there (Tail.here _)) | exact Tail.there (Tail.there (Tail.there (Tail.here _))) | exact Tail.there (Tail.there (Tail.there (Tail.there (Tail.here _)))) | exact Tail.there (Tail.there (Tail.there (Tail.there (Tail.there (Tail.here _))))) | exact Tail.const _), trivial⟩
theorem s_StepsAtSide_hs : ∀ x, Tail c_s_StepsAtSide.pts (fun g => c_s_StepsAtSide.start g x) := fun x => by
    obtain ⟨⟨s0_Steps, s0_Round, s0_Rise⟩, side1, _⟩ := x
    refine Tail.eq (Y := fun g => s_StepsAtSide_t0 (fun b0_0 b0_1 b0_2 r1 side1 step7 => g.1 (((b0_0, b0_1, b0_2, ()), r1, ()), (side1, (), (), step7, ()), ((), (), ()))) s0_Steps s0_Round s0_Rise side1) ?_ (fun g => by kernel_rfl)
    simp only [s_StepsAtSide_t0]; repeat (first | apply Tail.cond | (apply Tail.bind; intro _) | exact Tail.here _ | exact Tail.there (Tail.here _) | exact Tail.there (Tail.there (Tail.here _)) | exact Tail.there (Tail.there (Tail.there (Tail.here _))) | exact Tail.there (Tail.there (Tail.there (Tail.there (Tail.here _)))) | exact Tail.there (Tail.there (Tail.there (Tail.there (Tail.there (Tail.here _))))) | exact Tail.const _)
noncomputable def s_StepsAtSide_L1 (b0_0 : Int) (b0_1 : Int) (b0_2 : Int) (r1 : List (Int)) (side1 : ByteArray) (step7 : Int) : Option (List Int × Bool) := c_s_StepsAtSide.L.1 (((b0_0, b0_1, b0_2, ()), r1, ()), (side1, (), (), step7, ()), ((), (), ()))
theorem s_StepsAtSide_u1 (b0_0 : Int) (b0_1 : Int) (b0_2 : Int) (r1 : List (Int)) (side1 : ByteArray) (step7 : Int) : s_StepsAtSide_L1 b0_0 b0_1 b0_2 r1 side1 step7 = s_StepsAtSide_t1 s_StepsAtSide_L1 b0_0 b0_1 b0_2 r1 side1 step7 :=
  (congrArg (fun g => g.1 (((b0_0, b0_1, b0_2, ()), r1, ()), (side1, (), (), step7, ()), ((), (), ()))) (FnCx.L_eq s_StepsAtSide_ts)).trans (by kernel_rfl)
noncomputable def s_StepsAtSide (s0_Steps : Int) (s0_Round : Int) (s0_Rise : Int) (side1 : ByteArray) : Option (List Int × Bool) := s_StepsAtSide_t0 s_StepsAtSide_L1 s0_Steps s0_Round s0_Rise side1
theorem s_StepsAtSide_e (s0_Steps : Int) (s0_Round : Int) (s0_Rise : Int) (side1 : ByteArray) : c_s_StepsAtSide.start c_s_StepsAtSide.L ((s0_Steps, s0_Round, s0_Rise), side1, ()) = s_StepsAtSide s0_Steps s0_Round s0_Rise side1 := by kernel_rfl
noncomputable def F_s_StepsAtSide : Ins c_s_StepsAtSide.ins → Option (List Int × Bool) := fun x => s_StepsAtSide x.1.1 x.1.2.1 x.1.2.2 x.2.1
noncomputable def S_s_StepsAtSide : FSpec := mkF c_s_StepsAtSide.env.pre c_s_StepsAtSide.ins c_s_StepsAtSide.out c_s_StepsAtSide.inj F_s_StepsAtSide
theorem h_s_StepsAtSide : Cert Try.prog 113 S_s_StepsAtSide := FnCx.certF (c := c_s_StepsAtSide) F_s_StepsAtSide (tyOk _ _ _) (spOk ⟨h_s_spGood, fun _ _ _ => trivial, ⟨h_s_spSide, fun _ _ _ => trivial, trivial⟩⟩) (fun _ _ _ _ _ hs => evDr_ok (tyOk _ _ _) hs follows) Try.func113 rfl rfl Try.ntmps113 (by kernel_rfl) rfl rfl (fun _ => rfl) s_StepsAtSide_ts s_StepsAtSide_hs (fun x t hb ht => by
  obtain ⟨⟨s0_Steps, s0_Round, s0_Rise⟩, side1, _⟩ := x
  exact (s_StepsAtSide_e s0_Steps s0_Round s0_Rise side1).trans ht)
/-! impl.AreOpposite -/
noncomputable def c_i_AreOpposite : FnCx := { env := env 18 [(219, S_i_Spiral_has), (226, S_i_Spiral_opposite)] [], body := bodyOf Try.f107, res := [.tmp 6, .tmp 7], ins := [.ro kSpiral, .ro kint, .ro kint], out := [(kbool, true), (kbool, true)], T := Bool × Bool, fin := fun r => (r.1.1, r.1.2.1), inj := fun t => ((t.1, t.2, ()), ((), (), (), ())), pts := [], fuel := 400, dr := noDr }
noncomputable def i_AreOpposite (s0_Steps : Int) (s0_Round : Int) (s0_Rise : Int) (a1 : Int) (b2 : Int) : Option (Bool × Bool) :=
  Option.bind (i_Spiral_has s0_Steps s0_Round s0_Rise [a1, b2]) fun r =>
    bif !r then some (false, false) else Option.bind (i_Spiral_opposite s0_Steps s0_Round s0_Rise a1 b2) fun r => some (r, true)
theorem i_AreOpposite_e (s0_Steps : Int) (s0_Round : Int) (s0_Rise : Int) (a1 : Int) (b2 : Int) : c_i_AreOpposite.start c_i_AreOpposite.L ((s0_Steps, s0_Round, s0_Rise), a1, b2, ()) = i_AreOpposite s0_Steps s0_Round s0_Rise a1 b2 := by kernel_rfl
noncomputable def F_i_AreOpposite : Ins c_i_AreOpposite.ins → Option (Bool × Bool) := fun x => i_AreOpposite x.1.1 x.1.2.1 x.1.2.2 x.2.1 x.2.2.1
noncomputable def S_i_AreOpposite : FSpec := mkF c_i_AreOpposite.env.pre c_i_AreOpposite.ins c_i_AreOpposite.out c_i_AreOpposite.inj F_i_AreOpposite
theorem h_i_AreOpposite : Cert Try.prog 107 S_i_AreOpposite := FnCx.certF (c := c_i_AreOpposite) F_i_AreOpposite (tyOk _ _ _) (spOk ⟨h_i_Spiral_has, fun _ _ _ => trivial, ⟨h_i_Spiral_opposite, fun _ _ _ => trivial, trivial⟩⟩) (fun _ _ _ _ _ hs => noDr_ok) Try.func107 rfl rfl Try.ntmps107 (by kernel_rfl) rfl rfl (fun _ => rfl) trivial (fun x => .inl ⟨c_i_AreOpposite.start () x, fun _ => rfl⟩) (fun x t hb ht => by
  obtain ⟨⟨s0_Steps, s0_Round, s0_Rise⟩, a1, b2, _⟩ := x
  exact (i_AreOpposite_e s0_Steps s0_Round s0_Rise a1 b2).trans ht)
/-! spec.AreOpposite -/
noncomputable def c_s_AreOpposite : FnCx := { env := env 22 [(221, S_s_spStep), (227, S_s_spOpposite)] [], body := bodyOf Try.f111, res := [.tmp 6, .tmp 7], ins := [.ro kSpiral, .ro kint, .ro kint], out := [(kbool, true), (kbool, true)], T := Bool × Bool, fin := fun r => (r.1.1, r.1.2.1), inj := fun t => ((t.1, t.2, ()), ((), (), (), ())), pts := [], fuel := 400, dr := noDr }
noncomputable def s_AreOpposite (s0_Steps : Int) (s0_Round : Int) (s0_Rise : Int) (a1 : Int) (b2 : Int) : Option (Bool × Bool) :=
  bif !s_spStep s0_Steps s0_Round s0_Rise a1 then some (false, false)
  else bif !s_spStep s0_Steps s0_Round s0_Rise b2 then some (false, false) else Option.bind (s_spOpposite s0_Steps s0_Round s0_Rise a1 b2) fun r => some (r, true)
theorem s_AreOpposite_e (s0_Steps : Int) (s0_Round : Int) (s0_Rise : Int) (a1 : Int) (b2 : Int) : c_s_AreOpposite.start c_s_AreOpposite.L ((s0_Steps, s0_Round, s0_Rise), a1, b2, ()) = s_AreOpposite s0_Steps s0_Round s0_Rise a1 b2 := by kernel_rfl
noncomputable def F_s_AreOpposite : Ins c_s_AreOpposite.ins → Option (Bool × Bool) := fun x => s_AreOpposite x.1.1 x.1.2.1 x.1.2.2 x.2.1 x.2.2.1
noncomputable def S_s_AreOpposite : FSpec := mkF c_s_AreOpposite.env.pre c_s_AreOpposite.ins c_s_AreOpposite.out c_s_AreOpposite.inj F_s_AreOpposite
theorem h_s_AreOpposite : Cert Try.prog 111 S_s_AreOpposite := FnCx.certF (c := c_s_AreOpposite) F_s_AreOpposite (tyOk _ _ _) (spOk ⟨h_s_spStep, fun _ _ _ => trivial, ⟨h_s_spOpposite, fun _ _ _ => trivial, trivial⟩⟩) (fun _ _ _ _ _ hs => noDr_ok) Try.func111 rfl rfl Try.ntmps111 (by kernel_rfl) rfl rfl (fun _ => rfl) trivial (fun x => .inl ⟨c_s_AreOpposite.start () x, fun _ => rfl⟩) (fun x t hb ht => by
  obtain ⟨⟨s0_Steps, s0_Round, s0_Rise⟩, a1, b2, _⟩ := x
  exact (s_AreOpposite_e s0_Steps s0_Round s0_Rise a1 b2).trans ht)
/-! impl.ApartAround -/
noncomputable def c_i_ApartAround : FnCx := { env := env 38 [(219, S_i_Spiral_has), (199, S_i_part)] [], body := bodyOf Try.f108, res := [.tmp 6, .tmp 7, .tmp 8], ins := [.ro kSpiral, .ro kint, .ro kint], out := [(kint, true), (kint, true), (kbool, true)], T := Int × Int × Bool, fin := fun r => (r.1.1, r.1.2.1, r.1.2.2.1), inj := fun t => ((t.1, t.2.1, t.2.2, ()), ((), (), (), ())), pts := [], fuel := 400, dr := noDr }
noncomputable def i_ApartAround (s0_Steps : Int) (s0_Round : Int) (s0_Rise : Int) (a1 : Int) (b2 : Int) : Option (Int × Int × Bool) :=
  Option.bind (i_Spiral_has s0_Steps s0_Round s0_Rise [a1, b2]) fun r =>
    bif !r then some (0, 0, false)
    else
      bif s0_Round == 0 then none
      else
        Option.bind
          (i_part
            (bif
                decide
                  (IntKind.wrap IntKind.i64
                      (s0_Round -
                        Int.tmod
                          (bif decide (IntKind.wrap IntKind.i64 (b2 - a1) > IntKind.wrap IntKind.i64 (a1 - b2)) then IntKind.wrap IntKind.i64 (b2 - a1)
                          else IntKind.wrap IntKind.i64 (a1 - b2))
                          s0_Round) <
                    Int.tmod
                      (bif decide (IntKind.wrap IntKind.i64 (b2 - a1) > IntKind.wrap IntKind.i64 (a1 - b2)) then IntKind.wrap IntKind.i64 (b2 - a1)
                      else IntKind.wrap IntKind.i64 (a1 - b2))
                      s0_Round) then
              IntKind.wrap IntKind.i64
                (s0_Round -
                  Int.tmod
                    (bif decide (IntKind.wrap IntKind.i64 (b2 - a1) > IntKind.wrap IntKind.i64 (a1 - b2)) then IntKind.wrap IntKind.i64 (b2 - a1)
                    else IntKind.wrap IntKind.i64 (a1 - b2))
                    s0_Round)
            else
              Int.tmod
                (bif decide (IntKind.wrap IntKind.i64 (b2 - a1) > IntKind.wrap IntKind.i64 (a1 - b2)) then IntKind.wrap IntKind.i64 (b2 - a1)
                else IntKind.wrap IntKind.i64 (a1 - b2))
                s0_Round)
            s0_Round)
          fun r => some (Prod.fst r, Prod.fst (Prod.snd r), Prod.snd (Prod.snd r))
theorem i_ApartAround_e (s0_Steps : Int) (s0_Round : Int) (s0_Rise : Int) (a1 : Int) (b2 : Int) : c_i_ApartAround.start c_i_ApartAround.L ((s0_Steps, s0_Round, s0_Rise), a1, b2, ()) = i_ApartAround s0_Steps s0_Round s0_Rise a1 b2 := by kernel_rfl
noncomputable def F_i_ApartAround : Ins c_i_ApartAround.ins → Option (Int × Int × Bool) := fun x => i_ApartAround x.1.1 x.1.2.1 x.1.2.2 x.2.1 x.2.2.1
noncomputable def S_i_ApartAround : FSpec := mkF c_i_ApartAround.env.pre c_i_ApartAround.ins c_i_ApartAround.out c_i_ApartAround.inj F_i_ApartAround
theorem h_i_ApartAround : Cert Try.prog 108 S_i_ApartAround := FnCx.certF (c := c_i_ApartAround) F_i_ApartAround (tyOk _ _ _) (spOk ⟨h_i_Spiral_has, fun _ _ _ => trivial, ⟨h_i_part, fun _ _ _ => trivial, trivial⟩⟩) (fun _ _ _ _ _ hs => noDr_ok) Try.func108 rfl rfl Try.ntmps108 (by kernel_rfl) rfl rfl (fun _ => rfl) trivial (fun x => .inl ⟨c_i_ApartAround.start () x, fun _ => rfl⟩) (fun x t hb ht => by
  obtain ⟨⟨s0_Steps, s0_Round, s0_Rise⟩, a1, b2, _⟩ := x
  exact (i_ApartAround_e s0_Steps s0_Round s0_Rise a1 b2).trans ht)
/-! spec.l1Least -/
noncomputable def c_s_l1Least : FnCx := { env := env 10 [] [], body := bodyOf Try.f190, res := [.tmp 4], ins := [.ro kint, .ro kint], out := [(kint, true)], T := Int, fin := fun r => r.1.1, inj := fun t => ((t, ()), ((), (), ())), pts := [], fuel := 400, dr := noDr }
noncomputable def s_l1Least (a0 : Int) (b1 : Int) : Int :=
  bif decide (a0 < b1) then a0 else b1
theorem s_l1Least_e (a0 : Int) (b1 : Int) : c_s_l1Least.start c_s_l1Least.L (a0, b1, ()) = some (s_l1Least a0 b1) := by
  refine Eq.trans (b := (bif decide (a0 < b1) then some a0 else some b1 : Option Int)) (by kernel_rfl) ?_
  unfold s_l1Least
  repeat (first | rfl | apply condS)
noncomputable def F_s_l1Least : Ins c_s_l1Least.ins → Int := fun x => s_l1Least x.1 x.2.1
noncomputable def S_s_l1Least : FSpec := mkT c_s_l1Least.env.pre c_s_l1Least.ins c_s_l1Least.out c_s_l1Least.inj F_s_l1Least
theorem h_s_l1Least : Cert Try.prog 190 S_s_l1Least := FnCx.certT (c := c_s_l1Least) F_s_l1Least (tyOk _ _ _) (spOk trivial) (fun _ _ _ _ _ hs => noDr_ok) Try.func190 rfl rfl Try.ntmps190 (by kernel_rfl) rfl rfl (fun _ => rfl) trivial (fun x => .inl ⟨c_s_l1Least.start () x, fun _ => rfl⟩) (fun x hb => by
  obtain ⟨a0, b1, _⟩ := x
  exact s_l1Least_e a0 b1)
/-! spec.ApartAround -/
noncomputable def c_s_ApartAround : FnCx := { env := env 43 [(221, S_s_spStep), (198, S_s_l1Abs), (190, S_s_l1Least), (222, S_s_spLow)] [], body := bodyOf Try.f110, res := [.tmp 6, .tmp 7, .tmp 8], ins := [.ro kSpiral, .ro kint, .ro kint], out := [(kint, true), (kint, true), (kbool, true)], T := Int × Int × Bool, fin := fun r => (r.1.1, r.1.2.1, r.1.2.2.1), inj := fun t => ((t.1, t.2.1, t.2.2, ()), ((), (), (), ())), pts := [], fuel := 400, dr := evDr (env 43 [(221, S_s_spStep), (198, S_s_l1Abs), (190, S_s_l1Least), (222, S_s_spLow)] []) }
noncomputable def s_ApartAround (s0_Steps : Int) (s0_Round : Int) (s0_Rise : Int) (a1 : Int) (b2 : Int) : Option (Int × Int × Bool) :=
  bif !s_spStep s0_Steps s0_Round s0_Rise a1 then some (0, 0, false)
  else
    bif !s_spStep s0_Steps s0_Round s0_Rise b2 then some (0, 0, false)
    else
      bif s0_Round == 0 then none
      else
        Option.bind
          (s_spLow
            (s_l1Least (Int.tmod (s_l1Abs (IntKind.wrap IntKind.i64 (a1 - b2))) s0_Round)
              (IntKind.wrap IntKind.i64 (s0_Round - Int.tmod (s_l1Abs (IntKind.wrap IntKind.i64 (a1 - b2))) s0_Round)))
            s0_Round)
          fun r => some (Prod.fst r, Prod.snd r, true)
theorem s_ApartAround_e (s0_Steps : Int) (s0_Round : Int) (s0_Rise : Int) (a1 : Int) (b2 : Int) : c_s_ApartAround.start c_s_ApartAround.L ((s0_Steps, s0_Round, s0_Rise), a1, b2, ()) = s_ApartAround s0_Steps s0_Round s0_Rise a1 b2 := by kernel_rfl
noncomputable def F_s_ApartAround : Ins c_s_ApartAround.ins → Option (Int × Int × Bool) := fun x => s_ApartAround x.1.1 x.1.2.1 x.1.2.2 x.2.1 x.2.2.1
noncomputable def S_s_ApartAround : FSpec := mkF c_s_ApartAround.env.pre c_s_ApartAround.ins c_s_ApartAround.out c_s_ApartAround.inj F_s_ApartAround
theorem h_s_ApartAround : Cert Try.prog 110 S_s_ApartAround := FnCx.certF (c := c_s_ApartAround) F_s_ApartAround (tyOk _ _ _) (spOk ⟨h_s_spStep, fun _ _ _ => trivial, ⟨h_s_l1Abs, fun _ _ _ => trivial, ⟨h_s_l1Least, fun _ _ _ => trivial, ⟨h_s_spLow, fun _ _ _ => trivial, trivial⟩⟩⟩⟩) (fun _ _ _ _ _ hs => evDr_ok (tyOk _ _ _) hs follows) Try.func110 rfl rfl Try.ntmps110 (by kernel_rfl) rfl rfl (fun _ => rfl) trivial (fun x => .inl ⟨c_s_ApartAround.start () x, fun _ => rfl⟩) (fun x t hb ht => by
  obtain ⟨⟨s0_Steps, s0_Round, s0_Rise⟩, a1, b2, _⟩ := x
  exact (s_ApartAround_e s0_Steps s0_Round s0_Rise a1 b2).trans ht)
/-! impl.LeastRound -/
noncomputable def c_i_LeastRound : FnCx := { env := env 25 [(175, S_i_within)] [], body := bodyOf Try.f115, res := [.tmp 4, .tmp 5], ins := [.ro kint, .ro kint], out := [(kint, true), (kbool, true)], T := Int × Bool, fin := fun r => (r.1.1, r.1.2.1), inj := fun t => ((t.1, t.2, ()), ((), (), ())), pts := [], fuel := 400, dr := noDr }
noncomputable def i_LeastRound (rise0 : Int) (head1 : Int) : Option (Int × Bool) :=
  bif !i_within rise0 1 300 then some (0, false)
  else
    bif !i_within head1 0 20000 then some (0, false)
    else
      bif rise0 == 0 then none
      else
        bif
            decide
              ((bif decide (IntKind.wrap IntKind.i64 (Int.tdiv (IntKind.wrap IntKind.i64 (IntKind.wrap IntKind.i64 (head1 + rise0) - 1)) rise0) > 3) then
                  IntKind.wrap IntKind.i64 (Int.tdiv (IntKind.wrap IntKind.i64 (IntKind.wrap IntKind.i64 (head1 + rise0) - 1)) rise0)
                else 3) >
                60) then
          some (0, false)
        else
          some
            (bif decide (IntKind.wrap IntKind.i64 (Int.tdiv (IntKind.wrap IntKind.i64 (IntKind.wrap IntKind.i64 (head1 + rise0) - 1)) rise0) > 3) then
                IntKind.wrap IntKind.i64 (Int.tdiv (IntKind.wrap IntKind.i64 (IntKind.wrap IntKind.i64 (head1 + rise0) - 1)) rise0)
              else 3,
              true)
theorem i_LeastRound_e (rise0 : Int) (head1 : Int) : c_i_LeastRound.start c_i_LeastRound.L (rise0, head1, ()) = i_LeastRound rise0 head1 := by kernel_rfl
noncomputable def F_i_LeastRound : Ins c_i_LeastRound.ins → Option (Int × Bool) := fun x => i_LeastRound x.1 x.2.1
noncomputable def S_i_LeastRound : FSpec := mkF c_i_LeastRound.env.pre c_i_LeastRound.ins c_i_LeastRound.out c_i_LeastRound.inj F_i_LeastRound
theorem h_i_LeastRound : Cert Try.prog 115 S_i_LeastRound := FnCx.certF (c := c_i_LeastRound) F_i_LeastRound (tyOk _ _ _) (spOk ⟨h_i_within, fun _ _ _ => trivial, trivial⟩) (fun _ _ _ _ _ hs => noDr_ok) Try.func115 rfl rfl Try.ntmps115 (by kernel_rfl) rfl rfl (fun _ => rfl) trivial (fun x => .inl ⟨c_i_LeastRound.start () x, fun _ => rfl⟩) (fun x t hb ht => by
  obtain ⟨rise0, head1, _⟩ := x
  exact (i_LeastRound_e rise0 head1).trans ht)
/-! spec.LeastRound -/
noncomputable def c_s_LeastRound : FnCx := { env := env 25 [(176, S_s_l1In), (191, S_s_l1Most)] [], body := bodyOf Try.f116, res := [.tmp 4, .tmp 5], ins := [.ro kint, .ro kint], out := [(kint, true), (kbool, true)], T := Int × Bool, fin := fun r => (r.1.1, r.1.2.1), inj := fun t => ((t.1, t.2, ()), ((), (), ())), pts := [], fuel := 400, dr := noDr }
noncomputable def s_LeastRound (rise0 : Int) (head1 : Int) : Option (Int × Bool) :=
  bif !s_l1In rise0 1 300 then some (0, false)
  else
    bif !s_l1In head1 0 20000 then some (0, false)
    else
      bif rise0 == 0 then none
      else
        bif decide (s_l1Most 3 (IntKind.wrap IntKind.i64 (Int.tdiv (IntKind.wrap IntKind.i64 (IntKind.wrap IntKind.i64 (head1 + rise0) - 1)) rise0)) > 60) then
          some (0, false)
        else some (s_l1Most 3 (IntKind.wrap IntKind.i64 (Int.tdiv (IntKind.wrap IntKind.i64 (IntKind.wrap IntKind.i64 (head1 + rise0) - 1)) rise0)), true)
theorem s_LeastRound_e (rise0 : Int) (head1 : Int) : c_s_LeastRound.start c_s_LeastRound.L (rise0, head1, ()) = s_LeastRound rise0 head1 := by kernel_rfl
noncomputable def F_s_LeastRound : Ins c_s_LeastRound.ins → Option (Int × Bool) := fun x => s_LeastRound x.1 x.2.1
noncomputable def S_s_LeastRound : FSpec := mkF c_s_LeastRound.env.pre c_s_LeastRound.ins c_s_LeastRound.out c_s_LeastRound.inj F_s_LeastRound
theorem h_s_LeastRound : Cert Try.prog 116 S_s_LeastRound := FnCx.certF (c := c_s_LeastRound) F_s_LeastRound (tyOk _ _ _) (spOk ⟨h_s_l1In, fun _ _ _ => trivial, ⟨h_s_l1Most, fun _ _ _ => trivial, trivial⟩⟩) (fun _ _ _ _ _ hs => noDr_ok) Try.func116 rfl rfl Try.ntmps116 (by kernel_rfl) rfl rfl (fun _ => rfl) trivial (fun x => .inl ⟨c_s_LeastRound.start () x, fun _ => rfl⟩) (fun x t hb ht => by
  obtain ⟨rise0, head1, _⟩ := x
  exact (s_LeastRound_e rise0 head1).trans ht)
/-! spec.IsSpiral -/
noncomputable def c_s_IsSpiral : FnCx := { env := env 5 [(230, S_s_spGood)] [], body := bodyOf Try.f103, res := [.tmp 2], ins := [.ro kSpiral], out := [(kbool, true)], T := Bool, fin := fun r => r.1.1, inj := fun t => ((t, ()), ((), ())), pts := [], fuel := 400, dr := noDr }
noncomputable def s_IsSpiral (s0_Steps : Int) (s0_Round : Int) (s0_Rise : Int) : Bool :=
  s_spGood s0_Steps s0_Round s0_Rise
theorem s_IsSpiral_e (s0_Steps : Int) (s0_Round : Int) (s0_Rise : Int) : c_s_IsSpiral.start c_s_IsSpiral.L ((s0_Steps, s0_Round, s0_Rise), ()) = some (s_IsSpiral s0_Steps s0_Round s0_Rise) := by kernel_rfl
noncomputable def F_s_IsSpiral : Ins c_s_IsSpiral.ins → Bool := fun x => s_IsSpiral x.1.1 x.1.2.1 x.1.2.2
noncomputable def S_s_IsSpiral : FSpec := mkT c_s_IsSpiral.env.pre c_s_IsSpiral.ins c_s_IsSpiral.out c_s_IsSpiral.inj F_s_IsSpiral
theorem h_s_IsSpiral : Cert Try.prog 103 S_s_IsSpiral := FnCx.certT (c := c_s_IsSpiral) F_s_IsSpiral (tyOk _ _ _) (spOk ⟨h_s_spGood, fun _ _ _ => trivial, trivial⟩) (fun _ _ _ _ _ hs => noDr_ok) Try.func103 rfl rfl Try.ntmps103 (by kernel_rfl) rfl rfl (fun _ => rfl) trivial (fun x => .inl ⟨c_s_IsSpiral.start () x, fun _ => rfl⟩) (fun x hb => by
  obtain ⟨⟨s0_Steps, s0_Round, s0_Rise⟩, _⟩ := x
  exact s_IsSpiral_e s0_Steps s0_Round s0_Rise)
end Go.Proofs.Ythenlapjhlljnaa.V
