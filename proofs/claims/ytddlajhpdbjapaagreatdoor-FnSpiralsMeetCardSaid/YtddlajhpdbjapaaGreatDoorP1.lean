/- Functions of the program, as plain functions. No condition. -/
import Derived.Test.YtddlajhpdbjapaaGreatDoorTyP
set_option linter.unusedVariables false
set_option linter.unusedSimpArgs false
set_option maxRecDepth 100000
namespace Go.Proofs.YtddlajhpdbjapaaGreatDoor.V
open Go Go.Ev Go.Proofs
/-! impl.within -/
noncomputable def c_i_within : FnCx := { env := env 15 [] [], body := bodyOf Tryz.f75, res := [.tmp 6], ins := [.ro kint, .ro kint, .ro kint], out := [(kbool, true)], T := Bool, fin := fun r => r.1.1, inj := fun t => ((t, ()), ((), (), (), ())), pts := [], fuel := 400, dr := noDr }
noncomputable def i_within (n0 : Int) (low1 : Int) (high2 : Int) : Bool :=
  bif decide (low1 ≤ n0) then decide (n0 ≤ high2) else false
theorem i_within_e (n0 : Int) (low1 : Int) (high2 : Int) : c_i_within.start c_i_within.L (n0, low1, high2, ()) = some (i_within n0 low1 high2) := by
  refine Eq.trans (b := (bif decide (low1 ≤ n0) then some (decide (n0 ≤ high2)) else some false : Option Bool)) (by kernel_rfl) ?_
  unfold i_within
  repeat (first | rfl | apply condS)
noncomputable def F_i_within : Ins c_i_within.ins → Bool := fun x => i_within x.1 x.2.1 x.2.2.1
noncomputable def S_i_within : FSpec := mkT c_i_within.env.pre c_i_within.ins c_i_within.out c_i_within.inj F_i_within
theorem h_i_within : Cert Tryz.prog 75 S_i_within := FnCx.certT (c := c_i_within) F_i_within (tyOk _ _ _) (spOk trivial) (fun _ _ _ _ _ hs => noDr_ok) Tryz.func75 rfl rfl Tryz.ntmps75 (by kernel_rfl) rfl rfl (fun _ => rfl) trivial (fun x => .inl ⟨c_i_within.start () x, fun _ => rfl⟩) (fun x hb => by
  obtain ⟨n0, low1, high2, _⟩ := x
  exact i_within_e n0 low1 high2)
/-! impl.IsSpiral -/
noncomputable def c_i_IsSpiral : FnCx := { env := env 16 [(75, S_i_within)] [], body := bodyOf Tryz.f31, res := [.tmp 2], ins := [.ro kSpiral], out := [(kbool, true)], T := Bool, fin := fun r => r.1.1, inj := fun t => ((t, ()), ((), ())), pts := [], fuel := 400, dr := noDr }
noncomputable def i_IsSpiral (s0_Steps : Int) (s0_Round : Int) (s0_Rise : Int) : Bool :=
  bif i_within s0_Steps 1 400 then bif i_within s0_Round 3 60 then i_within s0_Rise 1 300 else false else false
theorem i_IsSpiral_e (s0_Steps : Int) (s0_Round : Int) (s0_Rise : Int) : c_i_IsSpiral.start c_i_IsSpiral.L ((s0_Steps, s0_Round, s0_Rise), ()) = some (i_IsSpiral s0_Steps s0_Round s0_Rise) := by
  refine Eq.trans (b := (bif i_within s0_Steps 1 400 then bif i_within s0_Round 3 60 then some (i_within s0_Rise 1 300) else some false else some false : Option Bool)) (by kernel_rfl) ?_
  unfold i_IsSpiral
  repeat (first | rfl | apply condS)
noncomputable def F_i_IsSpiral : Ins c_i_IsSpiral.ins → Bool := fun x => i_IsSpiral x.1.1 x.1.2.1 x.1.2.2
noncomputable def S_i_IsSpiral : FSpec := mkT c_i_IsSpiral.env.pre c_i_IsSpiral.ins c_i_IsSpiral.out c_i_IsSpiral.inj F_i_IsSpiral
theorem h_i_IsSpiral : Cert Tryz.prog 31 S_i_IsSpiral := FnCx.certT (c := c_i_IsSpiral) F_i_IsSpiral (tyOk _ _ _) (spOk ⟨h_i_within, fun _ _ h => h, trivial⟩) (fun _ _ _ _ _ hs => noDr_ok) Tryz.func31 rfl rfl Tryz.ntmps31 (by kernel_rfl) rfl rfl (fun _ => rfl) trivial (fun x => .inl ⟨c_i_IsSpiral.start () x, fun _ => rfl⟩) (fun x hb => by
  obtain ⟨⟨s0_Steps, s0_Round, s0_Rise⟩, _⟩ := x
  exact i_IsSpiral_e s0_Steps s0_Round s0_Rise)
/-! impl.isEvery -/
noncomputable def c_i_isEvery : FnCx := { env := env 5 [(75, S_i_within)] [], body := bodyOf Tryz.f74, res := [.tmp 2], ins := [.ro kint], out := [(kbool, true)], T := Bool, fin := fun r => r.1.1, inj := fun t => ((t, ()), ((), ())), pts := [], fuel := 400, dr := noDr }
noncomputable def i_isEvery (n0 : Int) : Bool :=
  i_within n0 1 400
theorem i_isEvery_e (n0 : Int) : c_i_isEvery.start c_i_isEvery.L (n0, ()) = some (i_isEvery n0) := by kernel_rfl
noncomputable def F_i_isEvery : Ins c_i_isEvery.ins → Bool := fun x => i_isEvery x.1
noncomputable def S_i_isEvery : FSpec := mkT c_i_isEvery.env.pre c_i_isEvery.ins c_i_isEvery.out c_i_isEvery.inj F_i_isEvery
theorem h_i_isEvery : Cert Tryz.prog 74 S_i_isEvery := FnCx.certT (c := c_i_isEvery) F_i_isEvery (tyOk _ _ _) (spOk ⟨h_i_within, fun _ _ h => h, trivial⟩) (fun _ _ _ _ _ hs => noDr_ok) Tryz.func74 rfl rfl Tryz.ntmps74 (by kernel_rfl) rfl rfl (fun _ => rfl) trivial (fun x => .inl ⟨c_i_isEvery.start () x, fun _ => rfl⟩) (fun x hb => by
  obtain ⟨n0, _⟩ := x
  exact i_isEvery_e n0)
/-! impl.DarkSteps$1 -/
noncomputable def c_i_DarkSteps_c1 : FnCx := { env := env 24 [] [], body := bodyOf Tryz.f77, res := [.tmp 5], ins := [.ro kint, .ptr 3 kint, .ptr 25 kSpiral, .ptr 3 kint], out := [(kbool, true)], T := Bool × Int × (Int × Int × Int) × Int, fin := fun r => (r.1.1, r.2.2.1, r.2.2.2.1, r.2.2.2.2.1), inj := fun t => ((t.1, ()), ((), t.2.1, t.2.2.1, t.2.2.2, ())), pts := [([.inLoop [1, 0, 1, 0, 0], .inBlock 0, .code [1, 1]], Shape.mk [Bs.box 3 [Cs.sc kint], Bs.box 25 [Cs.sc kint, Cs.sc kint, Cs.sc kint], Bs.box 3 [Cs.sc kint]] [(0, Ss.one (Cs.sc kint)), (1, Ss.one (Cs.ptr 0 0)), (2, Ss.one (Cs.ptr 1 0)), (3, Ss.one (Cs.ptr 2 0)), (6, Ss.one (Cs.sc kint))] [Ss.one (Cs.any), Ss.one (Cs.ptr 0 0), Ss.one (Cs.ptr 1 0), Ss.one (Cs.ptr 2 0)])], fuel := 400, dr := noDr }
noncomputable def i_DarkSteps_c1_t1 (g1 : Int → Int → Int → Int → Int → Int → Int → Option (Bool × Int × (Int × Int × Int) × Int)) (b0_0 : Int) (b1_0 : Int) (b1_1 : Int) (b1_2 : Int) (b2_0 : Int) (k0 : Int) (at6 : Int) : Option (Bool × Int × (Int × Int × Int) × Int) :=
  bif decide (at6 ≤ b1_0) then
    bif
        decide
          ((bif decide (IntKind.wrap IntKind.i64 (k0 - at6) > IntKind.wrap IntKind.i64 (at6 - k0)) then IntKind.wrap IntKind.i64 (k0 - at6)
            else IntKind.wrap IntKind.i64 (at6 - k0)) ≤
            b2_0) then
      some (false, b0_0, (b1_0, b1_1, b1_2), b2_0)
    else g1 b0_0 b1_0 b1_1 b1_2 b2_0 k0 (IntKind.wrap IntKind.i64 (at6 + b0_0))
  else some (true, b0_0, (b1_0, b1_1, b1_2), b2_0)
noncomputable def i_DarkSteps_c1_t0 (g1 : Int → Int → Int → Int → Int → Int → Int → Option (Bool × Int × (Int × Int × Int) × Int)) (k0 : Int) (x1 : Int) (x2_Steps : Int) (x2_Round : Int) (x2_Rise : Int) (x3 : Int) : Option (Bool × Int × (Int × Int × Int) × Int) :=
  g1 x1 x2_Steps x2_Round x2_Rise x3 k0 x1
theorem i_DarkSteps_c1_ts : Tails c_i_DarkSteps_c1.pts c_i_DarkSteps_c1.round :=
  ⟨fun s => by
    obtain ⟨⟨⟨b0_0, _⟩, ⟨b1_0, b1_1, b1_2, _⟩, ⟨b2_0, _⟩, _⟩, ⟨k0, _, _, _, at6, _⟩, ⟨_, _, _, _, _⟩⟩ := s
    refine Tail.eq (Y := fun g => i_DarkSteps_c1_t1 (fun b0_0 b1_0 b1_1 b1_2 b2_0 k0 at6 => g.1 (((b0_0, ()), (b1_0, b1_1, b1_2, ()), (b2_0, ()), ()), (k0, (), (), (), at6, ()), ((), (), (), (), ()))) b0_0 b1_0 b1_1 b1_2 b2_0 k0 at6) ?_ (fun g => by kernel_rfl)
    simp only [i_DarkSteps_c1_t1]; repeat (first | exact Tail.const _ | exact Tail.here _ | exact Tail.there (Tail.here _) | exact Tail.there (Tail.there (Tail.here _)) | exact Tail.there (Tail.there (Tail.there (Tail.here _))) | exact Tail.there (Tail.there (Tail.there (Tail.there (Tail.here _)))) | exact Tail.there (Tail.there (Tail.there (Tail.there (Tail.there (Tail.here _))))) | apply Tail.cond | (apply Tail.bind; intro _)), trivial⟩
theorem i_DarkSteps_c1_hs : ∀ x, Tail c_i_DarkSteps_c1.pts (fun g => c_i_DarkSteps_c1.start g x) := fun x => by
    obtain ⟨k0, x1, ⟨x2_Steps, x2_Round, x2_Rise⟩, x3, _⟩ := x
    refine Tail.eq (Y := fun g => i_DarkSteps_c1_t0 (fun b0_0 b1_0 b1_1 b1_2 b2_0 k0 at6 => g.1 (((b0_0, ()), (b1_0, b1_1, b1_2, ()), (b2_0, ()), ()), (k0, (), (), (), at6, ()), ((), (), (), (), ()))) k0 x1 x2_Steps x2_Round x2_Rise x3) ?_ (fun g => by kernel_rfl)
    simp only [i_DarkSteps_c1_t0]; repeat (first | exact Tail.const _ | exact Tail.here _ | exact Tail.there (Tail.here _) | exact Tail.there (Tail.there (Tail.here _)) | exact Tail.there (Tail.there (Tail.there (Tail.here _))) | exact Tail.there (Tail.there (Tail.there (Tail.there (Tail.here _)))) | exact Tail.there (Tail.there (Tail.there (Tail.there (Tail.there (Tail.here _))))) | apply Tail.cond | (apply Tail.bind; intro _))
noncomputable def i_DarkSteps_c1_L1 (b0_0 : Int) (b1_0 : Int) (b1_1 : Int) (b1_2 : Int) (b2_0 : Int) (k0 : Int) (at6 : Int) : Option (Bool × Int × (Int × Int × Int) × Int) := c_i_DarkSteps_c1.L.1 (((b0_0, ()), (b1_0, b1_1, b1_2, ()), (b2_0, ()), ()), (k0, (), (), (), at6, ()), ((), (), (), (), ()))
theorem i_DarkSteps_c1_u1 (b0_0 : Int) (b1_0 : Int) (b1_1 : Int) (b1_2 : Int) (b2_0 : Int) (k0 : Int) (at6 : Int) : i_DarkSteps_c1_L1 b0_0 b1_0 b1_1 b1_2 b2_0 k0 at6 = i_DarkSteps_c1_t1 i_DarkSteps_c1_L1 b0_0 b1_0 b1_1 b1_2 b2_0 k0 at6 :=
  (congrArg (fun g => g.1 (((b0_0, ()), (b1_0, b1_1, b1_2, ()), (b2_0, ()), ()), (k0, (), (), (), at6, ()), ((), (), (), (), ()))) (FnCx.L_eq i_DarkSteps_c1_ts)).trans (by kernel_rfl)
noncomputable def i_DarkSteps_c1 (k0 : Int) (x1 : Int) (x2_Steps : Int) (x2_Round : Int) (x2_Rise : Int) (x3 : Int) : Option (Bool × Int × (Int × Int × Int) × Int) := i_DarkSteps_c1_t0 i_DarkSteps_c1_L1 k0 x1 x2_Steps x2_Round x2_Rise x3
theorem i_DarkSteps_c1_e (k0 : Int) (x1 : Int) (x2_Steps : Int) (x2_Round : Int) (x2_Rise : Int) (x3 : Int) : c_i_DarkSteps_c1.start c_i_DarkSteps_c1.L (k0, x1, (x2_Steps, x2_Round, x2_Rise), x3, ()) = i_DarkSteps_c1 k0 x1 x2_Steps x2_Round x2_Rise x3 := by kernel_rfl
noncomputable def F_i_DarkSteps_c1 : Ins c_i_DarkSteps_c1.ins → Option (Bool × Int × (Int × Int × Int) × Int) := fun x => i_DarkSteps_c1 x.1 x.2.1 x.2.2.1.1 x.2.2.1.2.1 x.2.2.1.2.2 x.2.2.2.1
noncomputable def S_i_DarkSteps_c1 : FSpec := mkF c_i_DarkSteps_c1.env.pre c_i_DarkSteps_c1.ins c_i_DarkSteps_c1.out c_i_DarkSteps_c1.inj F_i_DarkSteps_c1
theorem h_i_DarkSteps_c1 : Cert Tryz.prog 77 S_i_DarkSteps_c1 := FnCx.certF (c := c_i_DarkSteps_c1) F_i_DarkSteps_c1 (tyOk _ _ _) (spOk trivial) (fun _ _ _ _ _ hs => noDr_ok) Tryz.func77 rfl rfl Tryz.ntmps77 (by kernel_rfl) rfl rfl (fun _ => rfl) i_DarkSteps_c1_ts i_DarkSteps_c1_hs (fun x t hb ht => by
  obtain ⟨k0, x1, ⟨x2_Steps, x2_Round, x2_Rise⟩, x3, _⟩ := x
  exact (i_DarkSteps_c1_e k0 x1 x2_Steps x2_Round x2_Rise x3).trans ht)
/-! (impl.Spiral).those -/
noncomputable def c_i_Spiral_those__i_DarkSteps_c1 : FnCx := { env := env 22 [(77, S_i_DarkSteps_c1)] [], body := bodyOf Tryz.f76, res := [.tmp 4], ins := [.ro kSpiral, .fn 77 [(3, kint), (25, kSpiral), (3, kint)]], out := [(kSint, true)], T := List Int × Int × (Int × Int × Int) × Int, fin := fun r => (r.1.1, r.2.2.1.1, r.2.2.1.2.1, r.2.2.1.2.2.1), inj := fun t => ((t.1, ()), ((), (t.2.1, t.2.2.1, t.2.2.2, ()), ())), pts := [([.inLoop [1, 1, 0, 1, 0, 0], .inBlock 0, .code [1, 1, 1]], Shape.mk [Bs.box 3 [Cs.sc kint], Bs.box 25 [Cs.sc kint, Cs.sc kint, Cs.sc kint], Bs.box 3 [Cs.sc kint], Bs.box 25 [Cs.sc kint, Cs.sc kint, Cs.sc kint], Bs.row kint 3 true] [(1, Ss.fn 77 [Cs.ptr 0 0, Cs.ptr 1 0, Cs.ptr 2 0]), (2, Ss.one (Cs.ptr 3 0)), (5, Ss.one (Cs.sl 4)), (6, Ss.one (Cs.sc kint))] [Ss.one (Cs.any), Ss.fn 77 [Cs.ptr 0 0, Cs.ptr 1 0, Cs.ptr 2 0]])], fuel := 400, dr := noDr }
noncomputable def i_Spiral_those__i_DarkSteps_c1_t1 (g1 : Int → Int → Int → Int → Int → Int → Int → Int → List (Int) → Int → Option (List Int × Int × (Int × Int × Int) × Int)) (b0_0 : Int) (b1_0 : Int) (b1_1 : Int) (b1_2 : Int) (b2_0 : Int) (b3_0 : Int) (b3_1 : Int) (b3_2 : Int) (r4 : List (Int)) (k6 : Int) : Option (List Int × Int × (Int × Int × Int) × Int) :=
  bif decide (k6 ≤ b3_0) then
    Option.bind (i_DarkSteps_c1 k6 b0_0 b1_0 b1_1 b1_2 b2_0) fun r =>
      bif Prod.fst r then
        bif Nat.ble (List.length r4 + 1) 4294967296 then
          g1 (Prod.fst (Prod.snd r)) (Prod.fst (Prod.fst (Prod.snd (Prod.snd r)))) (Prod.fst (Prod.snd (Prod.fst (Prod.snd (Prod.snd r)))))
            (Prod.snd (Prod.snd (Prod.fst (Prod.snd (Prod.snd r))))) (Prod.snd (Prod.snd (Prod.snd r))) b3_0 b3_1 b3_2 (r4 ++ [k6])
            (IntKind.wrap IntKind.i64 (k6 + 1))
        else none
      else
        g1 (Prod.fst (Prod.snd r)) (Prod.fst (Prod.fst (Prod.snd (Prod.snd r)))) (Prod.fst (Prod.snd (Prod.fst (Prod.snd (Prod.snd r)))))
          (Prod.snd (Prod.snd (Prod.fst (Prod.snd (Prod.snd r))))) (Prod.snd (Prod.snd (Prod.snd r))) b3_0 b3_1 b3_2 r4 (IntKind.wrap IntKind.i64 (k6 + 1))
  else some (r4, b0_0, (b1_0, b1_1, b1_2), b2_0)
noncomputable def i_Spiral_those__i_DarkSteps_c1_t0 (g1 : Int → Int → Int → Int → Int → Int → Int → Int → List (Int) → Int → Option (List Int × Int × (Int × Int × Int) × Int)) (s0_Steps : Int) (s0_Round : Int) (s0_Rise : Int) (holds1_0 : Int) (holds1_1_Steps : Int) (holds1_1_Round : Int) (holds1_1_Rise : Int) (holds1_2 : Int) : Option (List Int × Int × (Int × Int × Int) × Int) :=
  g1 holds1_0 holds1_1_Steps holds1_1_Round holds1_1_Rise holds1_2 s0_Steps s0_Round s0_Rise [] 1
theorem i_Spiral_those__i_DarkSteps_c1_ts : Tails c_i_Spiral_those__i_DarkSteps_c1.pts c_i_Spiral_those__i_DarkSteps_c1.round :=
  ⟨fun s => by
    obtain ⟨⟨⟨b0_0, _⟩, ⟨b1_0, b1_1, b1_2, _⟩, ⟨b2_0, _⟩, ⟨b3_0, b3_1, b3_2, _⟩, r4, _⟩, ⟨⟨_, _, _, _⟩, _, _, k6, _⟩, ⟨_, ⟨_, _, _, _⟩, _⟩⟩ := s
    refine Tail.eq (Y := fun g => i_Spiral_those__i_DarkSteps_c1_t1 (fun b0_0 b1_0 b1_1 b1_2 b2_0 b3_0 b3_1 b3_2 r4 k6 => g.1 (((b0_0, ()), (b1_0, b1_1, b1_2, ()), (b2_0, ()), (b3_0, b3_1, b3_2, ()), r4, ()), (((), (), (), ()), (), (), k6, ()), ((), ((), (), (), ()), ()))) b0_0 b1_0 b1_1 b1_2 b2_0 b3_0 b3_1 b3_2 r4 k6) ?_ (fun g => by kernel_rfl)
    simp only [i_Spiral_those__i_DarkSteps_c1_t1]; repeat (first | exact Tail.const _ | exact Tail.here _ | exact Tail.there (Tail.here _) | exact Tail.there (Tail.there (Tail.here _)) | exact Tail.there (Tail.there (Tail.there (Tail.here _))) | exact Tail.there (Tail.there (Tail.there (Tail.there (Tail.here _)))) | exact Tail.there (Tail.there (Tail.there (Tail.there (Tail.there (Tail.here _))))) | apply Tail.cond | (apply Tail.bind; intro _)), trivial⟩
theorem i_Spiral_those__i_DarkSteps_c1_hs : ∀ x, Tail c_i_Spiral_those__i_DarkSteps_c1.pts (fun g => c_i_Spiral_those__i_DarkSteps_c1.start g x) := fun x => by
    obtain ⟨⟨s0_Steps, s0_Round, s0_Rise⟩, ⟨holds1_0, ⟨holds1_1_Steps, holds1_1_Round, holds1_1_Rise⟩, holds1_2, _⟩, _⟩ := x
    refine Tail.eq (Y := fun g => i_Spiral_those__i_DarkSteps_c1_t0 (fun b0_0 b1_0 b1_1 b1_2 b2_0 b3_0 b3_1 b3_2 r4 k6 => g.1 (((b0_0, ()), (b1_0, b1_1, b1_2, ()), (b2_0, ()), (b3_0, b3_1, b3_2, ()), r4, ()), (((), (), (), ()), (), (), k6, ()), ((), ((), (), (), ()), ()))) s0_Steps s0_Round s0_Rise holds1_0 holds1_1_Steps holds1_1_Round holds1_1_Rise holds1_2) ?_ (fun g => by kernel_rfl)
    simp only [i_Spiral_those__i_DarkSteps_c1_t0]; repeat (first | exact Tail.const _ | exact Tail.here _ | exact Tail.there (Tail.here _) | exact Tail.there (Tail.there (Tail.here _)) | exact Tail.there (Tail.there (Tail.there (Tail.here _))) | exact Tail.there (Tail.there (Tail.there (Tail.there (Tail.here _)))) | exact Tail.there (Tail.there (Tail.there (Tail.there (Tail.there (Tail.here _))))) | apply Tail.cond | (apply Tail.bind; intro _))
noncomputable def i_Spiral_those__i_DarkSteps_c1_L1 (b0_0 : Int) (b1_0 : Int) (b1_1 : Int) (b1_2 : Int) (b2_0 : Int) (b3_0 : Int) (b3_1 : Int) (b3_2 : Int) (r4 : List (Int)) (k6 : Int) : Option (List Int × Int × (Int × Int × Int) × Int) := c_i_Spiral_those__i_DarkSteps_c1.L.1 (((b0_0, ()), (b1_0, b1_1, b1_2, ()), (b2_0, ()), (b3_0, b3_1, b3_2, ()), r4, ()), (((), (), (), ()), (), (), k6, ()), ((), ((), (), (), ()), ()))
theorem i_Spiral_those__i_DarkSteps_c1_u1 (b0_0 : Int) (b1_0 : Int) (b1_1 : Int) (b1_2 : Int) (b2_0 : Int) (b3_0 : Int) (b3_1 : Int) (b3_2 : Int) (r4 : List (Int)) (k6 : Int) : i_Spiral_those__i_DarkSteps_c1_L1 b0_0 b1_0 b1_1 b1_2 b2_0 b3_0 b3_1 b3_2 r4 k6 = i_Spiral_those__i_DarkSteps_c1_t1 i_Spiral_those__i_DarkSteps_c1_L1 b0_0 b1_0 b1_1 b1_2 b2_0 b3_0 b3_1 b3_2 r4 k6 :=
  (congrArg (fun g => g.1 (((b0_0, ()), (b1_0, b1_1, b1_2, ()), (b2_0, ()), (b3_0, b3_1, b3_2, ()), r4, ()), (((), (), (), ()), (), (), k6, ()), ((), ((), (), (), ()), ()))) (FnCx.L_eq i_Spiral_those__i_DarkSteps_c1_ts)).trans (by kernel_rfl)
noncomputable def i_Spiral_those__i_DarkSteps_c1 (s0_Steps : Int) (s0_Round : Int) (s0_Rise : Int) (holds1_0 : Int) (holds1_1_Steps : Int) (holds1_1_Round : Int) (holds1_1_Rise : Int) (holds1_2 : Int) : Option (List Int × Int × (Int × Int × Int) × Int) := i_Spiral_those__i_DarkSteps_c1_t0 i_Spiral_those__i_DarkSteps_c1_L1 s0_Steps s0_Round s0_Rise holds1_0 holds1_1_Steps holds1_1_Round holds1_1_Rise holds1_2
theorem i_Spiral_those__i_DarkSteps_c1_e (s0_Steps : Int) (s0_Round : Int) (s0_Rise : Int) (holds1_0 : Int) (holds1_1_Steps : Int) (holds1_1_Round : Int) (holds1_1_Rise : Int) (holds1_2 : Int) : c_i_Spiral_those__i_DarkSteps_c1.start c_i_Spiral_those__i_DarkSteps_c1.L ((s0_Steps, s0_Round, s0_Rise), (holds1_0, (holds1_1_Steps, holds1_1_Round, holds1_1_Rise), holds1_2, ()), ()) = i_Spiral_those__i_DarkSteps_c1 s0_Steps s0_Round s0_Rise holds1_0 holds1_1_Steps holds1_1_Round holds1_1_Rise holds1_2 := by kernel_rfl
noncomputable def F_i_Spiral_those__i_DarkSteps_c1 : Ins c_i_Spiral_those__i_DarkSteps_c1.ins → Option (List Int × Int × (Int × Int × Int) × Int) := fun x => i_Spiral_those__i_DarkSteps_c1 x.1.1 x.1.2.1 x.1.2.2 x.2.1.1 x.2.1.2.1.1 x.2.1.2.1.2.1 x.2.1.2.1.2.2 x.2.1.2.2.1
noncomputable def S_i_Spiral_those__i_DarkSteps_c1 : FSpec := mkF c_i_Spiral_those__i_DarkSteps_c1.env.pre c_i_Spiral_those__i_DarkSteps_c1.ins c_i_Spiral_those__i_DarkSteps_c1.out c_i_Spiral_those__i_DarkSteps_c1.inj F_i_Spiral_those__i_DarkSteps_c1
theorem h_i_Spiral_those__i_DarkSteps_c1 : Cert Tryz.prog 76 S_i_Spiral_those__i_DarkSteps_c1 := FnCx.certF (c := c_i_Spiral_those__i_DarkSteps_c1) F_i_Spiral_those__i_DarkSteps_c1 (tyOk _ _ _) (spOk ⟨h_i_DarkSteps_c1, fun _ _ h => h, trivial⟩) (fun _ _ _ _ _ hs => noDr_ok) Tryz.func76 rfl rfl Tryz.ntmps76 (by kernel_rfl) rfl rfl (fun _ => rfl) i_Spiral_those__i_DarkSteps_c1_ts i_Spiral_those__i_DarkSteps_c1_hs (fun x t hb ht => by
  obtain ⟨⟨s0_Steps, s0_Round, s0_Rise⟩, ⟨holds1_0, ⟨holds1_1_Steps, holds1_1_Round, holds1_1_Rise⟩, holds1_2, _⟩, _⟩ := x
  exact (i_Spiral_those__i_DarkSteps_c1_e s0_Steps s0_Round s0_Rise holds1_0 holds1_1_Steps holds1_1_Round holds1_1_Rise holds1_2).trans ht)
/-! impl.DarkSteps -/
noncomputable def c_i_DarkSteps : FnCx := { env := env 24 [(31, S_i_IsSpiral), (74, S_i_isEvery), (75, S_i_within), (76, S_i_Spiral_those__i_DarkSteps_c1)] [], body := bodyOf Tryz.f7, res := [.tmp 6, .tmp 7], ins := [.ro kSpiral, .ro kint, .ro kint], out := [(kSint, true), (kbool, true)], T := List Int × Bool, fin := fun r => (r.1.1, r.1.2.1), inj := fun t => ((t.1, t.2, ()), ((), (), (), ())), pts := [], fuel := 400, dr := noDr }
noncomputable def i_DarkSteps (s0_Steps : Int) (s0_Round : Int) (s0_Rise : Int) (lamp1 : Int) (shine2 : Int) : Option (List Int × Bool) :=
  bif !i_IsSpiral s0_Steps s0_Round s0_Rise then some ([], false)
  else
    bif !i_isEvery lamp1 then some ([], false)
    else
      bif !i_within shine2 0 400 then some ([], false)
      else Option.bind (i_Spiral_those__i_DarkSteps_c1 s0_Steps s0_Round s0_Rise lamp1 s0_Steps s0_Round s0_Rise shine2) fun r => some (Prod.fst r, true)
theorem i_DarkSteps_e (s0_Steps : Int) (s0_Round : Int) (s0_Rise : Int) (lamp1 : Int) (shine2 : Int) : c_i_DarkSteps.start c_i_DarkSteps.L ((s0_Steps, s0_Round, s0_Rise), lamp1, shine2, ()) = i_DarkSteps s0_Steps s0_Round s0_Rise lamp1 shine2 := by kernel_rfl
noncomputable def F_i_DarkSteps : Ins c_i_DarkSteps.ins → Option (List Int × Bool) := fun x => i_DarkSteps x.1.1 x.1.2.1 x.1.2.2 x.2.1 x.2.2.1
noncomputable def S_i_DarkSteps : FSpec := mkF c_i_DarkSteps.env.pre c_i_DarkSteps.ins c_i_DarkSteps.out c_i_DarkSteps.inj F_i_DarkSteps
theorem h_i_DarkSteps : Cert Tryz.prog 7 S_i_DarkSteps := FnCx.certF (c := c_i_DarkSteps) F_i_DarkSteps (tyOk _ _ _) (spOk ⟨h_i_IsSpiral, fun _ _ h => h, ⟨h_i_isEvery, fun _ _ h => h, ⟨h_i_within, fun _ _ h => h, ⟨h_i_Spiral_those__i_DarkSteps_c1, fun _ _ h => h, trivial⟩⟩⟩⟩) (fun _ _ _ _ _ hs => noDr_ok) Tryz.func7 rfl rfl Tryz.ntmps7 (by kernel_rfl) rfl rfl (fun _ => rfl) trivial (fun x => .inl ⟨c_i_DarkSteps.start () x, fun _ => rfl⟩) (fun x t hb ht => by
  obtain ⟨⟨s0_Steps, s0_Round, s0_Rise⟩, lamp1, shine2, _⟩ := x
  exact (i_DarkSteps_e s0_Steps s0_Round s0_Rise lamp1 shine2).trans ht)
/-! spec.l1In -/
noncomputable def c_s_l1In : FnCx := { env := env 15 [] [], body := bodyOf Tryz.f79, res := [.tmp 6], ins := [.ro kint, .ro kint, .ro kint], out := [(kbool, true)], T := Bool, fin := fun r => r.1.1, inj := fun t => ((t, ()), ((), (), (), ())), pts := [], fuel := 400, dr := noDr }
noncomputable def s_l1In (n0 : Int) (lo1 : Int) (hi2 : Int) : Bool :=
  bif decide (n0 ≥ lo1) then decide (n0 ≤ hi2) else false
theorem s_l1In_e (n0 : Int) (lo1 : Int) (hi2 : Int) : c_s_l1In.start c_s_l1In.L (n0, lo1, hi2, ()) = some (s_l1In n0 lo1 hi2) := by
  refine Eq.trans (b := (bif decide (n0 ≥ lo1) then some (decide (n0 ≤ hi2)) else some false : Option Bool)) (by kernel_rfl) ?_
  unfold s_l1In
  repeat (first | rfl | apply condS)
noncomputable def F_s_l1In : Ins c_s_l1In.ins → Bool := fun x => s_l1In x.1 x.2.1 x.2.2.1
noncomputable def S_s_l1In : FSpec := mkT c_s_l1In.env.pre c_s_l1In.ins c_s_l1In.out c_s_l1In.inj F_s_l1In
theorem h_s_l1In : Cert Tryz.prog 79 S_s_l1In := FnCx.certT (c := c_s_l1In) F_s_l1In (tyOk _ _ _) (spOk trivial) (fun _ _ _ _ _ hs => noDr_ok) Tryz.func79 rfl rfl Tryz.ntmps79 (by kernel_rfl) rfl rfl (fun _ => rfl) trivial (fun x => .inl ⟨c_s_l1In.start () x, fun _ => rfl⟩) (fun x hb => by
  obtain ⟨n0, lo1, hi2, _⟩ := x
  exact s_l1In_e n0 lo1 hi2)
/-! spec.spGood -/
noncomputable def c_s_spGood : FnCx := { env := env 16 [(79, S_s_l1In)] [], body := bodyOf Tryz.f81, res := [.tmp 2], ins := [.ro kSpiral], out := [(kbool, true)], T := Bool, fin := fun r => r.1.1, inj := fun t => ((t, ()), ((), ())), pts := [], fuel := 400, dr := noDr }
noncomputable def s_spGood (s0_Steps : Int) (s0_Round : Int) (s0_Rise : Int) : Bool :=
  bif s_l1In s0_Steps 1 400 then bif s_l1In s0_Round 3 60 then s_l1In s0_Rise 1 300 else false else false
theorem s_spGood_e (s0_Steps : Int) (s0_Round : Int) (s0_Rise : Int) : c_s_spGood.start c_s_spGood.L ((s0_Steps, s0_Round, s0_Rise), ()) = some (s_spGood s0_Steps s0_Round s0_Rise) := by
  refine Eq.trans (b := (bif s_l1In s0_Steps 1 400 then bif s_l1In s0_Round 3 60 then some (s_l1In s0_Rise 1 300) else some false else some false : Option Bool)) (by kernel_rfl) ?_
  unfold s_spGood
  repeat (first | rfl | apply condS)
noncomputable def F_s_spGood : Ins c_s_spGood.ins → Bool := fun x => s_spGood x.1.1 x.1.2.1 x.1.2.2
noncomputable def S_s_spGood : FSpec := mkT c_s_spGood.env.pre c_s_spGood.ins c_s_spGood.out c_s_spGood.inj F_s_spGood
theorem h_s_spGood : Cert Tryz.prog 81 S_s_spGood := FnCx.certT (c := c_s_spGood) F_s_spGood (tyOk _ _ _) (spOk ⟨h_s_l1In, fun _ _ h => h, trivial⟩) (fun _ _ _ _ _ hs => noDr_ok) Tryz.func81 rfl rfl Tryz.ntmps81 (by kernel_rfl) rfl rfl (fun _ => rfl) trivial (fun x => .inl ⟨c_s_spGood.start () x, fun _ => rfl⟩) (fun x hb => by
  obtain ⟨⟨s0_Steps, s0_Round, s0_Rise⟩, _⟩ := x
  exact s_spGood_e s0_Steps s0_Round s0_Rise)
/-! spec.spEvery -/
noncomputable def c_s_spEvery : FnCx := { env := env 11 [(81, S_s_spGood), (79, S_s_l1In)] [], body := bodyOf Tryz.f78, res := [.tmp 4], ins := [.ro kSpiral, .ro kint], out := [(kbool, true)], T := Bool, fin := fun r => r.1.1, inj := fun t => ((t, ()), ((), (), ())), pts := [], fuel := 400, dr := noDr }
noncomputable def s_spEvery (s0_Steps : Int) (s0_Round : Int) (s0_Rise : Int) (every1 : Int) : Bool :=
  bif s_spGood s0_Steps s0_Round s0_Rise then s_l1In every1 1 400 else false
theorem s_spEvery_e (s0_Steps : Int) (s0_Round : Int) (s0_Rise : Int) (every1 : Int) : c_s_spEvery.start c_s_spEvery.L ((s0_Steps, s0_Round, s0_Rise), every1, ()) = some (s_spEvery s0_Steps s0_Round s0_Rise every1) := by
  refine Eq.trans (b := (bif s_spGood s0_Steps s0_Round s0_Rise then some (s_l1In every1 1 400) else some false : Option Bool)) (by kernel_rfl) ?_
  unfold s_spEvery
  repeat (first | rfl | apply condS)
noncomputable def F_s_spEvery : Ins c_s_spEvery.ins → Bool := fun x => s_spEvery x.1.1 x.1.2.1 x.1.2.2 x.2.1
noncomputable def S_s_spEvery : FSpec := mkT c_s_spEvery.env.pre c_s_spEvery.ins c_s_spEvery.out c_s_spEvery.inj F_s_spEvery
theorem h_s_spEvery : Cert Tryz.prog 78 S_s_spEvery := FnCx.certT (c := c_s_spEvery) F_s_spEvery (tyOk _ _ _) (spOk ⟨h_s_spGood, fun _ _ h => h, ⟨h_s_l1In, fun _ _ h => h, trivial⟩⟩) (fun _ _ _ _ _ hs => noDr_ok) Tryz.func78 rfl rfl Tryz.ntmps78 (by kernel_rfl) rfl rfl (fun _ => rfl) trivial (fun x => .inl ⟨c_s_spEvery.start () x, fun _ => rfl⟩) (fun x hb => by
  obtain ⟨⟨s0_Steps, s0_Round, s0_Rise⟩, every1, _⟩ := x
  exact s_spEvery_e s0_Steps s0_Round s0_Rise every1)
/-! spec.l1Most -/
noncomputable def c_s_l1Most : FnCx := { env := env 10 [] [], body := bodyOf Tryz.f115, res := [.tmp 4], ins := [.ro kint, .ro kint], out := [(kint, true)], T := Int, fin := fun r => r.1.1, inj := fun t => ((t, ()), ((), (), ())), pts := [], fuel := 400, dr := noDr }
noncomputable def s_l1Most (a0 : Int) (b1 : Int) : Int :=
  bif decide (a0 > b1) then a0 else b1
theorem s_l1Most_e (a0 : Int) (b1 : Int) : c_s_l1Most.start c_s_l1Most.L (a0, b1, ()) = some (s_l1Most a0 b1) := by
  refine Eq.trans (b := (bif decide (a0 > b1) then some a0 else some b1 : Option Int)) (by kernel_rfl) ?_
  unfold s_l1Most
  repeat (first | rfl | apply condS)
noncomputable def F_s_l1Most : Ins c_s_l1Most.ins → Int := fun x => s_l1Most x.1 x.2.1
noncomputable def S_s_l1Most : FSpec := mkT c_s_l1Most.env.pre c_s_l1Most.ins c_s_l1Most.out c_s_l1Most.inj F_s_l1Most
theorem h_s_l1Most : Cert Tryz.prog 115 S_s_l1Most := FnCx.certT (c := c_s_l1Most) F_s_l1Most (tyOk _ _ _) (spOk trivial) (fun _ _ _ _ _ hs => noDr_ok) Tryz.func115 rfl rfl Tryz.ntmps115 (by kernel_rfl) rfl rfl (fun _ => rfl) trivial (fun x => .inl ⟨c_s_l1Most.start () x, fun _ => rfl⟩) (fun x hb => by
  obtain ⟨a0, b1, _⟩ := x
  exact s_l1Most_e a0 b1)
/-! spec.l1Abs -/
noncomputable def c_s_l1Abs : FnCx := { env := env 7 [(115, S_s_l1Most)] [], body := bodyOf Tryz.f80, res := [.tmp 2], ins := [.ro kint], out := [(kint, true)], T := Int, fin := fun r => r.1.1, inj := fun t => ((t, ()), ((), ())), pts := [], fuel := 400, dr := noDr }
noncomputable def s_l1Abs (n0 : Int) : Int :=
  s_l1Most n0 (IntKind.wrap IntKind.i64 (0 - n0))
theorem s_l1Abs_e (n0 : Int) : c_s_l1Abs.start c_s_l1Abs.L (n0, ()) = some (s_l1Abs n0) := by kernel_rfl
noncomputable def F_s_l1Abs : Ins c_s_l1Abs.ins → Int := fun x => s_l1Abs x.1
noncomputable def S_s_l1Abs : FSpec := mkT c_s_l1Abs.env.pre c_s_l1Abs.ins c_s_l1Abs.out c_s_l1Abs.inj F_s_l1Abs
theorem h_s_l1Abs : Cert Tryz.prog 80 S_s_l1Abs := FnCx.certT (c := c_s_l1Abs) F_s_l1Abs (tyOk _ _ _) (spOk ⟨h_s_l1Most, fun _ _ h => h, trivial⟩) (fun _ _ _ _ _ hs => noDr_ok) Tryz.func80 rfl rfl Tryz.ntmps80 (by kernel_rfl) rfl rfl (fun _ => rfl) trivial (fun x => .inl ⟨c_s_l1Abs.start () x, fun _ => rfl⟩) (fun x hb => by
  obtain ⟨n0, _⟩ := x
  exact s_l1Abs_e n0)
/-! spec.DarkSteps -/
noncomputable def c_s_DarkSteps : FnCx := { env := env 50 [(78, S_s_spEvery), (79, S_s_l1In), (80, S_s_l1Abs)] [], body := bodyOf Tryz.f8, res := [.tmp 6, .tmp 7], ins := [.ro kSpiral, .ro kint, .ro kint], out := [(kSint, true), (kbool, true)], T := List Int × Bool, fin := fun r => (r.1.1, r.1.2.1), inj := fun t => ((t.1, t.2, ()), ((), (), (), ())), pts := [([.inLoop [1, 1, 1, 0, 1, 0, 0], .inBlock 0, .code [1, 1, 1, 1]], Shape.mk [Bs.box 25 [Cs.sc kint, Cs.sc kint, Cs.sc kint], Bs.row kint 3 true] [(1, Ss.one (Cs.sc kint)), (2, Ss.one (Cs.sc kint)), (3, Ss.one (Cs.ptr 0 0)), (8, Ss.one (Cs.sl 1)), (9, Ss.one (Cs.sc kint))] [Ss.one (Cs.any), Ss.one (Cs.any), Ss.one (Cs.any)]), ([.inLoop [1, 1, 1, 0, 1, 0, 0, 1, 0, 0, 1, 0, 1, 0, 0], .inBlock 2, .code [1, 1, 1, 0, 1, 0, 0, 1, 0, 0, 1, 1], .inBlock 1, .code [1, 1, 1, 0, 1, 0, 0, 1, 1], .inLoop [1, 1, 1, 0, 1, 0, 0], .inBlock 0, .code [1, 1, 1, 1]], Shape.mk [Bs.box 25 [Cs.sc kint, Cs.sc kint, Cs.sc kint], Bs.row kint 3 true] [(1, Ss.one (Cs.sc kint)), (2, Ss.one (Cs.sc kint)), (3, Ss.one (Cs.ptr 0 0)), (8, Ss.one (Cs.sl 1)), (9, Ss.one (Cs.sc kint)), (10, Ss.one (Cs.sc kbool)), (11, Ss.one (Cs.sc kint))] [Ss.one (Cs.any), Ss.one (Cs.any), Ss.one (Cs.any)])], fuel := 400, dr := noDr }
noncomputable def s_DarkSteps_t1 (g1 : Int → Int → Int → List (Int) → Int → Int → Int → Option (List Int × Bool)) (g2 : Int → Int → Int → List (Int) → Int → Int → Int → Bool → Int → Option (List Int × Bool)) (b0_0 : Int) (b0_1 : Int) (b0_2 : Int) (r1 : List (Int)) (lamp1 : Int) (shine2 : Int) (step9 : Int) : Option (List Int × Bool) :=
  bif decide (step9 ≤ b0_0) then g2 b0_0 b0_1 b0_2 r1 lamp1 shine2 step9 true lamp1 else some (r1, true)
noncomputable def s_DarkSteps_t2 (g1 : Int → Int → Int → List (Int) → Int → Int → Int → Option (List Int × Bool)) (g2 : Int → Int → Int → List (Int) → Int → Int → Int → Bool → Int → Option (List Int × Bool)) (b0_0 : Int) (b0_1 : Int) (b0_2 : Int) (r1 : List (Int)) (lamp1 : Int) (shine2 : Int) (step9 : Int) (dark10 : Bool) (at11 : Int) : Option (List Int × Bool) :=
  bif decide (at11 ≤ b0_0) then
    bif dark10 then
      g2 b0_0 b0_1 b0_2 r1 lamp1 shine2 step9 (decide (s_l1Abs (IntKind.wrap IntKind.i64 (at11 - step9)) > shine2)) (IntKind.wrap IntKind.i64 (at11 + lamp1))
    else g2 b0_0 b0_1 b0_2 r1 lamp1 shine2 step9 false (IntKind.wrap IntKind.i64 (at11 + lamp1))
  else
    bif dark10 then
      bif Nat.ble (List.length r1 + 1) 4294967296 then g1 b0_0 b0_1 b0_2 (r1 ++ [step9]) lamp1 shine2 (IntKind.wrap IntKind.i64 (step9 + 1)) else none
    else g1 b0_0 b0_1 b0_2 r1 lamp1 shine2 (IntKind.wrap IntKind.i64 (step9 + 1))
noncomputable def s_DarkSteps_t0 (g1 : Int → Int → Int → List (Int) → Int → Int → Int → Option (List Int × Bool)) (g2 : Int → Int → Int → List (Int) → Int → Int → Int → Bool → Int → Option (List Int × Bool)) (s0_Steps : Int) (s0_Round : Int) (s0_Rise : Int) (lamp1 : Int) (shine2 : Int) : Option (List Int × Bool) :=
  bif !s_spEvery s0_Steps s0_Round s0_Rise lamp1 then some ([], false)
  else bif !s_l1In shine2 0 400 then some ([], false) else g1 s0_Steps s0_Round s0_Rise [] lamp1 shine2 1
theorem s_DarkSteps_ts : Tails c_s_DarkSteps.pts c_s_DarkSteps.round :=
  ⟨fun s => by
    obtain ⟨⟨⟨b0_0, b0_1, b0_2, _⟩, r1, _⟩, ⟨lamp1, shine2, _, _, step9, _⟩, ⟨_, _, _, _⟩⟩ := s
    refine Tail.eq (Y := fun g => s_DarkSteps_t1 (fun b0_0 b0_1 b0_2 r1 lamp1 shine2 step9 => g.1 (((b0_0, b0_1, b0_2, ()), r1, ()), (lamp1, shine2, (), (), step9, ()), ((), (), (), ()))) (fun b0_0 b0_1 b0_2 r1 lamp1 shine2 step9 dark10 at11 => g.2.1 (((b0_0, b0_1, b0_2, ()), r1, ()), (lamp1, shine2, (), (), step9, dark10, at11, ()), ((), (), (), ()))) b0_0 b0_1 b0_2 r1 lamp1 shine2 step9) ?_ (fun g => by kernel_rfl)
    simp only [s_DarkSteps_t1]; repeat (first | exact Tail.const _ | exact Tail.here _ | exact Tail.there (Tail.here _) | exact Tail.there (Tail.there (Tail.here _)) | exact Tail.there (Tail.there (Tail.there (Tail.here _))) | exact Tail.there (Tail.there (Tail.there (Tail.there (Tail.here _)))) | exact Tail.there (Tail.there (Tail.there (Tail.there (Tail.there (Tail.here _))))) | apply Tail.cond | (apply Tail.bind; intro _)),
  fun s => by
    obtain ⟨⟨⟨b0_0, b0_1, b0_2, _⟩, r1, _⟩, ⟨lamp1, shine2, _, _, step9, dark10, at11, _⟩, ⟨_, _, _, _⟩⟩ := s
    refine Tail.eq (Y := fun g => s_DarkSteps_t2 (fun b0_0 b0_1 b0_2 r1 lamp1 shine2 step9 => g.1 (((b0_0, b0_1, b0_2, ()), r1, ()), (lamp1, shine2, (), (), step9, ()), ((), (), (), ()))) (fun b0_0 b0_1 b0_2 r1 lamp1 shine2 step9 dark10 at11 => g.2.1 (((b0_0, b0_1, b0_2, ()), r1, ()), (lamp1, shine2, (), (), step9, dark10, at11, ()), ((), (), (), ()))) b0_0 b0_1 b0_2 r1 lamp1 shine2 step9 dark10 at11) ?_ (fun g => by kernel_rfl)
    simp only [s_DarkSteps_t2]; repeat (first | exact Tail.const _ | exact Tail.here _ | exact Tail.there (Tail.here _) | exact Tail.there (Tail.there (Tail.here _)) | exact Tail.there (Tail.there (Tail.there (Tail.here _))) | exact Tail.there (Tail.there (Tail.there (Tail.there (Tail.here _)))) | exact Tail.there (Tail.there (Tail.there (Tail.there (Tail.there (Tail.here _))))) | apply Tail.cond | (apply Tail.bind; intro _)), trivial⟩
theorem s_DarkSteps_hs : ∀ x, Tail c_s_DarkSteps.pts (fun g => c_s_DarkSteps.start g x) := fun x => by
    obtain ⟨⟨s0_Steps, s0_Round, s0_Rise⟩, lamp1, shine2, _⟩ := x
    refine Tail.eq (Y := fun g => s_DarkSteps_t0 (fun b0_0 b0_1 b0_2 r1 lamp1 shine2 step9 => g.1 (((b0_0, b0_1, b0_2, ()), r1, ()), (lamp1, shine2, (), (), step9, ()), ((), (), (), ()))) (fun b0_0 b0_1 b0_2 r1 lamp1 shine2 step9 dark10 at11 => g.2.1 (((b0_0, b0_1, b0_2, ()), r1, ()), (lamp1, shine2, (), (), step9, dark10, at11, ()), ((), (), (), ()))) s0_Steps s0_Round s0_Rise lamp1 shine2) ?_ (fun g => by kernel_rfl)
    simp only [s_DarkSteps_t0]; repeat (first | exact Tail.const _ | exact Tail.here _ | exact Tail.there (Tail.here _) | exact Tail.there (Tail.there (Tail.here _)) | exact Tail.there (Tail.there (Tail.there (Tail.here _))) | exact Tail.there (Tail.there (Tail.there (Tail.there (Tail.here _)))) | exact Tail.there (Tail.there (Tail.there (Tail.there (Tail.there (Tail.here _))))) | apply Tail.cond | (apply Tail.bind; intro _))
noncomputable def s_DarkSteps_L1 (b0_0 : Int) (b0_1 : Int) (b0_2 : Int) (r1 : List (Int)) (lamp1 : Int) (shine2 : Int) (step9 : Int) : Option (List Int × Bool) := c_s_DarkSteps.L.1 (((b0_0, b0_1, b0_2, ()), r1, ()), (lamp1, shine2, (), (), step9, ()), ((), (), (), ()))
noncomputable def s_DarkSteps_L2 (b0_0 : Int) (b0_1 : Int) (b0_2 : Int) (r1 : List (Int)) (lamp1 : Int) (shine2 : Int) (step9 : Int) (dark10 : Bool) (at11 : Int) : Option (List Int × Bool) := c_s_DarkSteps.L.2.1 (((b0_0, b0_1, b0_2, ()), r1, ()), (lamp1, shine2, (), (), step9, dark10, at11, ()), ((), (), (), ()))
theorem s_DarkSteps_u1 (b0_0 : Int) (b0_1 : Int) (b0_2 : Int) (r1 : List (Int)) (lamp1 : Int) (shine2 : Int) (step9 : Int) : s_DarkSteps_L1 b0_0 b0_1 b0_2 r1 lamp1 shine2 step9 = s_DarkSteps_t1 s_DarkSteps_L1 s_DarkSteps_L2 b0_0 b0_1 b0_2 r1 lamp1 shine2 step9 :=
  (congrArg (fun g => g.1 (((b0_0, b0_1, b0_2, ()), r1, ()), (lamp1, shine2, (), (), step9, ()), ((), (), (), ()))) (FnCx.L_eq s_DarkSteps_ts)).trans (by kernel_rfl)
theorem s_DarkSteps_u2 (b0_0 : Int) (b0_1 : Int) (b0_2 : Int) (r1 : List (Int)) (lamp1 : Int) (shine2 : Int) (step9 : Int) (dark10 : Bool) (at11 : Int) : s_DarkSteps_L2 b0_0 b0_1 b0_2 r1 lamp1 shine2 step9 dark10 at11 = s_DarkSteps_t2 s_DarkSteps_L1 s_DarkSteps_L2 b0_0 b0_1 b0_2 r1 lamp1 shine2 step9 dark10 at11 :=
  (congrArg (fun g => g.2.1 (((b0_0, b0_1, b0_2, ()), r1, ()), (lamp1, shine2, (), (), step9, dark10, at11, ()), ((), (), (), ()))) (FnCx.L_eq s_DarkSteps_ts)).trans (by kernel_rfl)
noncomputable def s_DarkSteps (s0_Steps : Int) (s0_Round : Int) (s0_Rise : Int) (lamp1 : Int) (shine2 : Int) : Option (List Int × Bool) := s_DarkSteps_t0 s_DarkSteps_L1 s_DarkSteps_L2 s0_Steps s0_Round s0_Rise lamp1 shine2
theorem s_DarkSteps_e (s0_Steps : Int) (s0_Round : Int) (s0_Rise : Int) (lamp1 : Int) (shine2 : Int) : c_s_DarkSteps.start c_s_DarkSteps.L ((s0_Steps, s0_Round, s0_Rise), lamp1, shine2, ()) = s_DarkSteps s0_Steps s0_Round s0_Rise lamp1 shine2 := by kernel_rfl
noncomputable def F_s_DarkSteps : Ins c_s_DarkSteps.ins → Option (List Int × Bool) := fun x => s_DarkSteps x.1.1 x.1.2.1 x.1.2.2 x.2.1 x.2.2.1
noncomputable def S_s_DarkSteps : FSpec := mkF c_s_DarkSteps.env.pre c_s_DarkSteps.ins c_s_DarkSteps.out c_s_DarkSteps.inj F_s_DarkSteps
theorem h_s_DarkSteps : Cert Tryz.prog 8 S_s_DarkSteps := FnCx.certF (c := c_s_DarkSteps) F_s_DarkSteps (tyOk _ _ _) (spOk ⟨h_s_spEvery, fun _ _ h => h, ⟨h_s_l1In, fun _ _ h => h, ⟨h_s_l1Abs, fun _ _ h => h, trivial⟩⟩⟩) (fun _ _ _ _ _ hs => noDr_ok) Tryz.func8 rfl rfl Tryz.ntmps8 (by kernel_rfl) rfl rfl (fun _ => rfl) s_DarkSteps_ts s_DarkSteps_hs (fun x t hb ht => by
  obtain ⟨⟨s0_Steps, s0_Round, s0_Rise⟩, lamp1, shine2, _⟩ := x
  exact (s_DarkSteps_e s0_Steps s0_Round s0_Rise lamp1 shine2).trans ht)
/-! impl.FewestLamps -/
noncomputable def c_i_FewestLamps : FnCx := { env := env 23 [(31, S_i_IsSpiral), (75, S_i_within)] [], body := bodyOf Tryz.f9, res := [.tmp 4, .tmp 5], ins := [.ro kSpiral, .ro kint], out := [(kint, true), (kbool, true)], T := Int × Bool, fin := fun r => (r.1.1, r.1.2.1), inj := fun t => ((t.1, t.2, ()), ((), (), ())), pts := [], fuel := 400, dr := noDr }
noncomputable def i_FewestLamps (s0_Steps : Int) (s0_Round : Int) (s0_Rise : Int) (shine1 : Int) : Option (Int × Bool) :=
  bif !i_IsSpiral s0_Steps s0_Round s0_Rise then some (0, false)
  else
    bif !i_within shine1 0 400 then some (0, false)
    else
      bif IntKind.wrap IntKind.i64 (IntKind.wrap IntKind.i64 (2 * shine1) + 1) == 0 then none
      else
        some
          (IntKind.wrap IntKind.i64
              (Int.tdiv (IntKind.wrap IntKind.i64 (s0_Steps + IntKind.wrap IntKind.i64 (2 * shine1)))
                (IntKind.wrap IntKind.i64 (IntKind.wrap IntKind.i64 (2 * shine1) + 1))),
            true)
theorem i_FewestLamps_e (s0_Steps : Int) (s0_Round : Int) (s0_Rise : Int) (shine1 : Int) : c_i_FewestLamps.start c_i_FewestLamps.L ((s0_Steps, s0_Round, s0_Rise), shine1, ()) = i_FewestLamps s0_Steps s0_Round s0_Rise shine1 := by kernel_rfl
noncomputable def F_i_FewestLamps : Ins c_i_FewestLamps.ins → Option (Int × Bool) := fun x => i_FewestLamps x.1.1 x.1.2.1 x.1.2.2 x.2.1
noncomputable def S_i_FewestLamps : FSpec := mkF c_i_FewestLamps.env.pre c_i_FewestLamps.ins c_i_FewestLamps.out c_i_FewestLamps.inj F_i_FewestLamps
theorem h_i_FewestLamps : Cert Tryz.prog 9 S_i_FewestLamps := FnCx.certF (c := c_i_FewestLamps) F_i_FewestLamps (tyOk _ _ _) (spOk ⟨h_i_IsSpiral, fun _ _ h => h, ⟨h_i_within, fun _ _ h => h, trivial⟩⟩) (fun _ _ _ _ _ hs => noDr_ok) Tryz.func9 rfl rfl Tryz.ntmps9 (by kernel_rfl) rfl rfl (fun _ => rfl) trivial (fun x => .inl ⟨c_i_FewestLamps.start () x, fun _ => rfl⟩) (fun x t hb ht => by
  obtain ⟨⟨s0_Steps, s0_Round, s0_Rise⟩, shine1, _⟩ := x
  exact (i_FewestLamps_e s0_Steps s0_Round s0_Rise shine1).trans ht)
/-! spec.FewestLamps -/
noncomputable def c_s_FewestLamps : FnCx := { env := env 23 [(81, S_s_spGood), (79, S_s_l1In)] [], body := bodyOf Tryz.f10, res := [.tmp 4, .tmp 5], ins := [.ro kSpiral, .ro kint], out := [(kint, true), (kbool, true)], T := Int × Bool, fin := fun r => (r.1.1, r.1.2.1), inj := fun t => ((t.1, t.2, ()), ((), (), ())), pts := [], fuel := 400, dr := noDr }
noncomputable def s_FewestLamps (s0_Steps : Int) (s0_Round : Int) (s0_Rise : Int) (shine1 : Int) : Option (Int × Bool) :=
  bif !s_spGood s0_Steps s0_Round s0_Rise then some (0, false)
  else
    bif !s_l1In shine1 0 400 then some (0, false)
    else
      bif IntKind.wrap IntKind.i64 (IntKind.wrap IntKind.i64 (2 * shine1) + 1) == 0 then none
      else
        some
          (IntKind.wrap IntKind.i64
              (Int.tdiv (IntKind.wrap IntKind.i64 (s0_Steps + IntKind.wrap IntKind.i64 (2 * shine1)))
                (IntKind.wrap IntKind.i64 (IntKind.wrap IntKind.i64 (2 * shine1) + 1))),
            true)
theorem s_FewestLamps_e (s0_Steps : Int) (s0_Round : Int) (s0_Rise : Int) (shine1 : Int) : c_s_FewestLamps.start c_s_FewestLamps.L ((s0_Steps, s0_Round, s0_Rise), shine1, ()) = s_FewestLamps s0_Steps s0_Round s0_Rise shine1 := by kernel_rfl
noncomputable def F_s_FewestLamps : Ins c_s_FewestLamps.ins → Option (Int × Bool) := fun x => s_FewestLamps x.1.1 x.1.2.1 x.1.2.2 x.2.1
noncomputable def S_s_FewestLamps : FSpec := mkF c_s_FewestLamps.env.pre c_s_FewestLamps.ins c_s_FewestLamps.out c_s_FewestLamps.inj F_s_FewestLamps
theorem h_s_FewestLamps : Cert Tryz.prog 10 S_s_FewestLamps := FnCx.certF (c := c_s_FewestLamps) F_s_FewestLamps (tyOk _ _ _) (spOk ⟨h_s_spGood, fun _ _ h => h, ⟨h_s_l1In, fun _ _ h => h, trivial⟩⟩) (fun _ _ _ _ _ hs => noDr_ok) Tryz.func10 rfl rfl Tryz.ntmps10 (by kernel_rfl) rfl rfl (fun _ => rfl) trivial (fun x => .inl ⟨c_s_FewestLamps.start () x, fun _ => rfl⟩) (fun x t hb ht => by
  obtain ⟨⟨s0_Steps, s0_Round, s0_Rise⟩, shine1, _⟩ := x
  exact (s_FewestLamps_e s0_Steps s0_Round s0_Rise shine1).trans ht)
/-! impl.LampsAndWindows$1 -/
noncomputable def c_i_LampsAndWindows_c1 : FnCx := { env := env 15 [] [], body := bodyOf Tryz.f82, res := [.tmp 4], ins := [.ro kint, .ptr 3 kint, .ptr 3 kint], out := [(kbool, true)], T := Bool × Int × Int, fin := fun r => (r.1.1, r.2.2.1, r.2.2.2.1), inj := fun t => ((t.1, ()), ((), t.2.1, t.2.2, ())), pts := [], fuel := 400, dr := noDr }
noncomputable def i_LampsAndWindows_c1 (k0 : Int) (x1 : Int) (x2 : Int) : Option (Bool × Int × Int) :=
  bif x1 == 0 then none else bif Int.tmod k0 x1 == 0 then bif x2 == 0 then none else some (Int.tmod k0 x2 == 0, x1, x2) else some (false, x1, x2)
theorem i_LampsAndWindows_c1_e (k0 : Int) (x1 : Int) (x2 : Int) : c_i_LampsAndWindows_c1.start c_i_LampsAndWindows_c1.L (k0, x1, x2, ()) = i_LampsAndWindows_c1 k0 x1 x2 := by kernel_rfl
noncomputable def F_i_LampsAndWindows_c1 : Ins c_i_LampsAndWindows_c1.ins → Option (Bool × Int × Int) := fun x => i_LampsAndWindows_c1 x.1 x.2.1 x.2.2.1
noncomputable def S_i_LampsAndWindows_c1 : FSpec := mkF c_i_LampsAndWindows_c1.env.pre c_i_LampsAndWindows_c1.ins c_i_LampsAndWindows_c1.out c_i_LampsAndWindows_c1.inj F_i_LampsAndWindows_c1
theorem h_i_LampsAndWindows_c1 : Cert Tryz.prog 82 S_i_LampsAndWindows_c1 := FnCx.certF (c := c_i_LampsAndWindows_c1) F_i_LampsAndWindows_c1 (tyOk _ _ _) (spOk trivial) (fun _ _ _ _ _ hs => noDr_ok) Tryz.func82 rfl rfl Tryz.ntmps82 (by kernel_rfl) rfl rfl (fun _ => rfl) trivial (fun x => .inl ⟨c_i_LampsAndWindows_c1.start () x, fun _ => rfl⟩) (fun x t hb ht => by
  obtain ⟨k0, x1, x2, _⟩ := x
  exact (i_LampsAndWindows_c1_e k0 x1 x2).trans ht)
/-! (impl.Spiral).those -/
noncomputable def c_i_Spiral_those__i_LampsAndWindows_c1 : FnCx := { env := env 22 [(82, S_i_LampsAndWindows_c1)] [], body := bodyOf Tryz.f76, res := [.tmp 4], ins := [.ro kSpiral, .fn 82 [(3, kint), (3, kint)]], out := [(kSint, true)], T := List Int × Int × Int, fin := fun r => (r.1.1, r.2.2.1.1, r.2.2.1.2.1), inj := fun t => ((t.1, ()), ((), (t.2.1, t.2.2, ()), ())), pts := [([.inLoop [1, 1, 0, 1, 0, 0], .inBlock 0, .code [1, 1, 1]], Shape.mk [Bs.box 3 [Cs.sc kint], Bs.box 3 [Cs.sc kint], Bs.box 25 [Cs.sc kint, Cs.sc kint, Cs.sc kint], Bs.row kint 3 true] [(1, Ss.fn 82 [Cs.ptr 0 0, Cs.ptr 1 0]), (2, Ss.one (Cs.ptr 2 0)), (5, Ss.one (Cs.sl 3)), (6, Ss.one (Cs.sc kint))] [Ss.one (Cs.any), Ss.fn 82 [Cs.ptr 0 0, Cs.ptr 1 0]])], fuel := 400, dr := noDr }
noncomputable def i_Spiral_those__i_LampsAndWindows_c1_t1 (g1 : Int → Int → Int → Int → Int → List (Int) → Int → Option (List Int × Int × Int)) (b0_0 : Int) (b1_0 : Int) (b2_0 : Int) (b2_1 : Int) (b2_2 : Int) (r3 : List (Int)) (k6 : Int) : Option (List Int × Int × Int) :=
  bif decide (k6 ≤ b2_0) then
    Option.bind (i_LampsAndWindows_c1 k6 b0_0 b1_0) fun r =>
      bif Prod.fst r then
        bif Nat.ble (List.length r3 + 1) 4294967296 then
          g1 (Prod.fst (Prod.snd r)) (Prod.snd (Prod.snd r)) b2_0 b2_1 b2_2 (r3 ++ [k6]) (IntKind.wrap IntKind.i64 (k6 + 1))
        else none
      else g1 (Prod.fst (Prod.snd r)) (Prod.snd (Prod.snd r)) b2_0 b2_1 b2_2 r3 (IntKind.wrap IntKind.i64 (k6 + 1))
  else some (r3, b0_0, b1_0)
noncomputable def i_Spiral_those__i_LampsAndWindows_c1_t0 (g1 : Int → Int → Int → Int → Int → List (Int) → Int → Option (List Int × Int × Int)) (s0_Steps : Int) (s0_Round : Int) (s0_Rise : Int) (holds1_0 : Int) (holds1_1 : Int) : Option (List Int × Int × Int) :=
  g1 holds1_0 holds1_1 s0_Steps s0_Round s0_Rise [] 1
theorem i_Spiral_those__i_LampsAndWindows_c1_ts : Tails c_i_Spiral_those__i_LampsAndWindows_c1.pts c_i_Spiral_those__i_LampsAndWindows_c1.round :=
  ⟨fun s => by
    obtain ⟨⟨⟨b0_0, _⟩, ⟨b1_0, _⟩, ⟨b2_0, b2_1, b2_2, _⟩, r3, _⟩, ⟨⟨_, _, _⟩, _, _, k6, _⟩, ⟨_, ⟨_, _, _⟩, _⟩⟩ := s
    refine Tail.eq (Y := fun g => i_Spiral_those__i_LampsAndWindows_c1_t1 (fun b0_0 b1_0 b2_0 b2_1 b2_2 r3 k6 => g.1 (((b0_0, ()), (b1_0, ()), (b2_0, b2_1, b2_2, ()), r3, ()), (((), (), ()), (), (), k6, ()), ((), ((), (), ()), ()))) b0_0 b1_0 b2_0 b2_1 b2_2 r3 k6) ?_ (fun g => by kernel_rfl)
    simp only [i_Spiral_those__i_LampsAndWindows_c1_t1]; repeat (first | exact Tail.const _ | exact Tail.here _ | exact Tail.there (Tail.here _) | exact Tail.there (Tail.there (Tail.here _)) | exact Tail.there (Tail.there (Tail.there (Tail.here _))) | exact Tail.there (Tail.there (Tail.there (Tail.there (Tail.here _)))) | exact Tail.there (Tail.there (Tail.there (Tail.there (Tail.there (Tail.here _))))) | apply Tail.cond | (apply Tail.bind; intro _)), trivial⟩
theorem i_Spiral_those__i_LampsAndWindows_c1_hs : ∀ x, Tail c_i_Spiral_those__i_LampsAndWindows_c1.pts (fun g => c_i_Spiral_those__i_LampsAndWindows_c1.start g x) := fun x => by
    obtain ⟨⟨s0_Steps, s0_Round, s0_Rise⟩, ⟨holds1_0, holds1_1, _⟩, _⟩ := x
    refine Tail.eq (Y := fun g => i_Spiral_those__i_LampsAndWindows_c1_t0 (fun b0_0 b1_0 b2_0 b2_1 b2_2 r3 k6 => g.1 (((b0_0, ()), (b1_0, ()), (b2_0, b2_1, b2_2, ()), r3, ()), (((), (), ()), (), (), k6, ()), ((), ((), (), ()), ()))) s0_Steps s0_Round s0_Rise holds1_0 holds1_1) ?_ (fun g => by kernel_rfl)
    simp only [i_Spiral_those__i_LampsAndWindows_c1_t0]; repeat (first | exact Tail.const _ | exact Tail.here _ | exact Tail.there (Tail.here _) | exact Tail.there (Tail.there (Tail.here _)) | exact Tail.there (Tail.there (Tail.there (Tail.here _))) | exact Tail.there (Tail.there (Tail.there (Tail.there (Tail.here _)))) | exact Tail.there (Tail.there (Tail.there (Tail.there (Tail.there (Tail.here _))))) | apply Tail.cond | (apply Tail.bind; intro _))
noncomputable def i_Spiral_those__i_LampsAndWindows_c1_L1 (b0_0 : Int) (b1_0 : Int) (b2_0 : Int) (b2_1 : Int) (b2_2 : Int) (r3 : List (Int)) (k6 : Int) : Option (List Int × Int × Int) := c_i_Spiral_those__i_LampsAndWindows_c1.L.1 (((b0_0, ()), (b1_0, ()), (b2_0, b2_1, b2_2, ()), r3, ()), (((), (), ()), (), (), k6, ()), ((), ((), (), ()), ()))
theorem i_Spiral_those__i_LampsAndWindows_c1_u1 (b0_0 : Int) (b1_0 : Int) (b2_0 : Int) (b2_1 : Int) (b2_2 : Int) (r3 : List (Int)) (k6 : Int) : i_Spiral_those__i_LampsAndWindows_c1_L1 b0_0 b1_0 b2_0 b2_1 b2_2 r3 k6 = i_Spiral_those__i_LampsAndWindows_c1_t1 i_Spiral_those__i_LampsAndWindows_c1_L1 b0_0 b1_0 b2_0 b2_1 b2_2 r3 k6 :=
  (congrArg (fun g => g.1 (((b0_0, ()), (b1_0, ()), (b2_0, b2_1, b2_2, ()), r3, ()), (((), (), ()), (), (), k6, ()), ((), ((), (), ()), ()))) (FnCx.L_eq i_Spiral_those__i_LampsAndWindows_c1_ts)).trans (by kernel_rfl)
noncomputable def i_Spiral_those__i_LampsAndWindows_c1 (s0_Steps : Int) (s0_Round : Int) (s0_Rise : Int) (holds1_0 : Int) (holds1_1 : Int) : Option (List Int × Int × Int) := i_Spiral_those__i_LampsAndWindows_c1_t0 i_Spiral_those__i_LampsAndWindows_c1_L1 s0_Steps s0_Round s0_Rise holds1_0 holds1_1
theorem i_Spiral_those__i_LampsAndWindows_c1_e (s0_Steps : Int) (s0_Round : Int) (s0_Rise : Int) (holds1_0 : Int) (holds1_1 : Int) : c_i_Spiral_those__i_LampsAndWindows_c1.start c_i_Spiral_those__i_LampsAndWindows_c1.L ((s0_Steps, s0_Round, s0_Rise), (holds1_0, holds1_1, ()), ()) = i_Spiral_those__i_LampsAndWindows_c1 s0_Steps s0_Round s0_Rise holds1_0 holds1_1 := by kernel_rfl
noncomputable def F_i_Spiral_those__i_LampsAndWindows_c1 : Ins c_i_Spiral_those__i_LampsAndWindows_c1.ins → Option (List Int × Int × Int) := fun x => i_Spiral_those__i_LampsAndWindows_c1 x.1.1 x.1.2.1 x.1.2.2 x.2.1.1 x.2.1.2.1
noncomputable def S_i_Spiral_those__i_LampsAndWindows_c1 : FSpec := mkF c_i_Spiral_those__i_LampsAndWindows_c1.env.pre c_i_Spiral_those__i_LampsAndWindows_c1.ins c_i_Spiral_those__i_LampsAndWindows_c1.out c_i_Spiral_those__i_LampsAndWindows_c1.inj F_i_Spiral_those__i_LampsAndWindows_c1
theorem h_i_Spiral_those__i_LampsAndWindows_c1 : Cert Tryz.prog 76 S_i_Spiral_those__i_LampsAndWindows_c1 := FnCx.certF (c := c_i_Spiral_those__i_LampsAndWindows_c1) F_i_Spiral_those__i_LampsAndWindows_c1 (tyOk _ _ _) (spOk ⟨h_i_LampsAndWindows_c1, fun _ _ h => h, trivial⟩) (fun _ _ _ _ _ hs => noDr_ok) Tryz.func76 rfl rfl Tryz.ntmps76 (by kernel_rfl) rfl rfl (fun _ => rfl) i_Spiral_those__i_LampsAndWindows_c1_ts i_Spiral_those__i_LampsAndWindows_c1_hs (fun x t hb ht => by
  obtain ⟨⟨s0_Steps, s0_Round, s0_Rise⟩, ⟨holds1_0, holds1_1, _⟩, _⟩ := x
  exact (i_Spiral_those__i_LampsAndWindows_c1_e s0_Steps s0_Round s0_Rise holds1_0 holds1_1).trans ht)
/-! impl.LampsAndWindows -/
noncomputable def c_i_LampsAndWindows : FnCx := { env := env 24 [(31, S_i_IsSpiral), (74, S_i_isEvery), (76, S_i_Spiral_those__i_LampsAndWindows_c1)] [], body := bodyOf Tryz.f15, res := [.tmp 6, .tmp 7], ins := [.ro kSpiral, .ro kint, .ro kint], out := [(kSint, true), (kbool, true)], T := List Int × Bool, fin := fun r => (r.1.1, r.1.2.1), inj := fun t => ((t.1, t.2, ()), ((), (), (), ())), pts := [], fuel := 400, dr := noDr }
noncomputable def i_LampsAndWindows (s0_Steps : Int) (s0_Round : Int) (s0_Rise : Int) (lamp1 : Int) (window2 : Int) : Option (List Int × Bool) :=
  bif !i_IsSpiral s0_Steps s0_Round s0_Rise then some ([], false)
  else
    bif !i_isEvery lamp1 then some ([], false)
    else
      bif !i_isEvery window2 then some ([], false)
      else Option.bind (i_Spiral_those__i_LampsAndWindows_c1 s0_Steps s0_Round s0_Rise lamp1 window2) fun r => some (Prod.fst r, true)
theorem i_LampsAndWindows_e (s0_Steps : Int) (s0_Round : Int) (s0_Rise : Int) (lamp1 : Int) (window2 : Int) : c_i_LampsAndWindows.start c_i_LampsAndWindows.L ((s0_Steps, s0_Round, s0_Rise), lamp1, window2, ()) = i_LampsAndWindows s0_Steps s0_Round s0_Rise lamp1 window2 := by kernel_rfl
noncomputable def F_i_LampsAndWindows : Ins c_i_LampsAndWindows.ins → Option (List Int × Bool) := fun x => i_LampsAndWindows x.1.1 x.1.2.1 x.1.2.2 x.2.1 x.2.2.1
noncomputable def S_i_LampsAndWindows : FSpec := mkF c_i_LampsAndWindows.env.pre c_i_LampsAndWindows.ins c_i_LampsAndWindows.out c_i_LampsAndWindows.inj F_i_LampsAndWindows
theorem h_i_LampsAndWindows : Cert Tryz.prog 15 S_i_LampsAndWindows := FnCx.certF (c := c_i_LampsAndWindows) F_i_LampsAndWindows (tyOk _ _ _) (spOk ⟨h_i_IsSpiral, fun _ _ h => h, ⟨h_i_isEvery, fun _ _ h => h, ⟨h_i_Spiral_those__i_LampsAndWindows_c1, fun _ _ h => h, trivial⟩⟩⟩) (fun _ _ _ _ _ hs => noDr_ok) Tryz.func15 rfl rfl Tryz.ntmps15 (by kernel_rfl) rfl rfl (fun _ => rfl) trivial (fun x => .inl ⟨c_i_LampsAndWindows.start () x, fun _ => rfl⟩) (fun x t hb ht => by
  obtain ⟨⟨s0_Steps, s0_Round, s0_Rise⟩, lamp1, window2, _⟩ := x
  exact (i_LampsAndWindows_e s0_Steps s0_Round s0_Rise lamp1 window2).trans ht)
/-! spec.LampsAndWindows -/
noncomputable def c_s_LampsAndWindows : FnCx := { env := env 37 [(78, S_s_spEvery)] [], body := bodyOf Tryz.f16, res := [.tmp 6, .tmp 7], ins := [.ro kSpiral, .ro kint, .ro kint], out := [(kSint, true), (kbool, true)], T := List Int × Bool, fin := fun r => (r.1.1, r.1.2.1), inj := fun t => ((t.1, t.2, ()), ((), (), (), ())), pts := [([.inLoop [1, 1, 1, 0, 1, 0, 0], .inBlock 0, .code [1, 1, 1, 1]], Shape.mk [Bs.box 25 [Cs.sc kint, Cs.sc kint, Cs.sc kint], Bs.row kint 3 true] [(1, Ss.one (Cs.sc kint)), (2, Ss.one (Cs.sc kint)), (3, Ss.one (Cs.ptr 0 0)), (8, Ss.one (Cs.sl 1)), (9, Ss.one (Cs.sc kint))] [Ss.one (Cs.any), Ss.one (Cs.any), Ss.one (Cs.any)])], fuel := 400, dr := noDr }
noncomputable def s_LampsAndWindows_t1 (g1 : Int → Int → Int → List (Int) → Int → Int → Int → Option (List Int × Bool)) (b0_0 : Int) (b0_1 : Int) (b0_2 : Int) (r1 : List (Int)) (lamp1 : Int) (window2 : Int) (step9 : Int) : Option (List Int × Bool) :=
  bif decide (step9 ≤ b0_0) then
    bif window2 == 0 then none
    else
      bif Int.tmod step9 window2 == 0 then
        bif Nat.ble (List.length r1 + 1) 4294967296 then g1 b0_0 b0_1 b0_2 (r1 ++ [step9]) lamp1 window2 (IntKind.wrap IntKind.i64 (step9 + lamp1)) else none
      else g1 b0_0 b0_1 b0_2 r1 lamp1 window2 (IntKind.wrap IntKind.i64 (step9 + lamp1))
  else some (r1, true)
noncomputable def s_LampsAndWindows_t0 (g1 : Int → Int → Int → List (Int) → Int → Int → Int → Option (List Int × Bool)) (s0_Steps : Int) (s0_Round : Int) (s0_Rise : Int) (lamp1 : Int) (window2 : Int) : Option (List Int × Bool) :=
  bif !s_spEvery s0_Steps s0_Round s0_Rise lamp1 then some ([], false)
  else bif !s_spEvery s0_Steps s0_Round s0_Rise window2 then some ([], false) else g1 s0_Steps s0_Round s0_Rise [] lamp1 window2 lamp1
theorem s_LampsAndWindows_ts : Tails c_s_LampsAndWindows.pts c_s_LampsAndWindows.round :=
  ⟨fun s => by
    obtain ⟨⟨⟨b0_0, b0_1, b0_2, _⟩, r1, _⟩, ⟨lamp1, window2, _, _, step9, _⟩, ⟨_, _, _, _⟩⟩ := s
    refine Tail.eq (Y := fun g => s_LampsAndWindows_t1 (fun b0_0 b0_1 b0_2 r1 lamp1 window2 step9 => g.1 (((b0_0, b0_1, b0_2, ()), r1, ()), (lamp1, window2, (), (), step9, ()), ((), (), (), ()))) b0_0 b0_1 b0_2 r1 lamp1 window2 step9) ?_ (fun g => by kernel_rfl)
    simp only [s_LampsAndWindows_t1]; repeat (first | exact Tail.const _ | exact Tail.here _ | exact Tail.there (Tail.here _) | exact Tail.there (Tail.there (Tail.here _)) | exact Tail.there (Tail.there (Tail.there (Tail.here _))) | exact Tail.there (Tail.there (Tail.there (Tail.there (Tail.here _)))) | exact Tail.there (Tail.there (Tail.there (Tail.there (Tail.there (Tail.here _))))) | apply Tail.cond | (apply Tail.bind; intro _)), trivial⟩
theorem s_LampsAndWindows_hs : ∀ x, Tail c_s_LampsAndWindows.pts (fun g => c_s_LampsAndWindows.start g x) := fun x => by
    obtain ⟨⟨s0_Steps, s0_Round, s0_Rise⟩, lamp1, window2, _⟩ := x
    refine Tail.eq (Y := fun g => s_LampsAndWindows_t0 (fun b0_0 b0_1 b0_2 r1 lamp1 window2 step9 => g.1 (((b0_0, b0_1, b0_2, ()), r1, ()), (lamp1, window2, (), (), step9, ()), ((), (), (), ()))) s0_Steps s0_Round s0_Rise lamp1 window2) ?_ (fun g => by kernel_rfl)
    simp only [s_LampsAndWindows_t0]; repeat (first | exact Tail.const _ | exact Tail.here _ | exact Tail.there (Tail.here _) | exact Tail.there (Tail.there (Tail.here _)) | exact Tail.there (Tail.there (Tail.there (Tail.here _))) | exact Tail.there (Tail.there (Tail.there (Tail.there (Tail.here _)))) | exact Tail.there (Tail.there (Tail.there (Tail.there (Tail.there (Tail.here _))))) | apply Tail.cond | (apply Tail.bind; intro _))
noncomputable def s_LampsAndWindows_L1 (b0_0 : Int) (b0_1 : Int) (b0_2 : Int) (r1 : List (Int)) (lamp1 : Int) (window2 : Int) (step9 : Int) : Option (List Int × Bool) := c_s_LampsAndWindows.L.1 (((b0_0, b0_1, b0_2, ()), r1, ()), (lamp1, window2, (), (), step9, ()), ((), (), (), ()))
theorem s_LampsAndWindows_u1 (b0_0 : Int) (b0_1 : Int) (b0_2 : Int) (r1 : List (Int)) (lamp1 : Int) (window2 : Int) (step9 : Int) : s_LampsAndWindows_L1 b0_0 b0_1 b0_2 r1 lamp1 window2 step9 = s_LampsAndWindows_t1 s_LampsAndWindows_L1 b0_0 b0_1 b0_2 r1 lamp1 window2 step9 :=
  (congrArg (fun g => g.1 (((b0_0, b0_1, b0_2, ()), r1, ()), (lamp1, window2, (), (), step9, ()), ((), (), (), ()))) (FnCx.L_eq s_LampsAndWindows_ts)).trans (by kernel_rfl)
noncomputable def s_LampsAndWindows (s0_Steps : Int) (s0_Round : Int) (s0_Rise : Int) (lamp1 : Int) (window2 : Int) : Option (List Int × Bool) := s_LampsAndWindows_t0 s_LampsAndWindows_L1 s0_Steps s0_Round s0_Rise lamp1 window2
theorem s_LampsAndWindows_e (s0_Steps : Int) (s0_Round : Int) (s0_Rise : Int) (lamp1 : Int) (window2 : Int) : c_s_LampsAndWindows.start c_s_LampsAndWindows.L ((s0_Steps, s0_Round, s0_Rise), lamp1, window2, ()) = s_LampsAndWindows s0_Steps s0_Round s0_Rise lamp1 window2 := by kernel_rfl
noncomputable def F_s_LampsAndWindows : Ins c_s_LampsAndWindows.ins → Option (List Int × Bool) := fun x => s_LampsAndWindows x.1.1 x.1.2.1 x.1.2.2 x.2.1 x.2.2.1
noncomputable def S_s_LampsAndWindows : FSpec := mkF c_s_LampsAndWindows.env.pre c_s_LampsAndWindows.ins c_s_LampsAndWindows.out c_s_LampsAndWindows.inj F_s_LampsAndWindows
theorem h_s_LampsAndWindows : Cert Tryz.prog 16 S_s_LampsAndWindows := FnCx.certF (c := c_s_LampsAndWindows) F_s_LampsAndWindows (tyOk _ _ _) (spOk ⟨h_s_spEvery, fun _ _ h => h, trivial⟩) (fun _ _ _ _ _ hs => noDr_ok) Tryz.func16 rfl rfl Tryz.ntmps16 (by kernel_rfl) rfl rfl (fun _ => rfl) s_LampsAndWindows_ts s_LampsAndWindows_hs (fun x t hb ht => by
  obtain ⟨⟨s0_Steps, s0_Round, s0_Rise⟩, lamp1, window2, _⟩ := x
  exact (s_LampsAndWindows_e s0_Steps s0_Round s0_Rise lamp1 window2).trans ht)
/-! impl.gcd -/
noncomputable def c_i_gcd : FnCx := { env := env 12 [] [], body := bodyOf Tryz.f83, res := [.tmp 4], ins := [.ro kint, .ro kint], out := [(kint, true)], T := Int, fin := fun r => r.1.1, inj := fun t => ((t, ()), ((), (), ())), pts := [([.inLoop [1, 0, 0, 0], .inBlock 0, .code [1, 1]], Shape.mk [] [(0, Ss.one (Cs.sc kint)), (1, Ss.one (Cs.sc kint))] [Ss.one (Cs.any), Ss.one (Cs.any)])], fuel := 400, dr := evDr (env 12 [] []) }
noncomputable def i_gcd_t1 (g1 : Int → Int → Option (Int)) (a0 : Int) (b1 : Int) : Option Int :=
  bif b1 != 0 then bif b1 == 0 then none else g1 b1 (Int.tmod a0 b1) else some a0
noncomputable def i_gcd_t0 (g1 : Int → Int → Option (Int)) (a0 : Int) (b1 : Int) : Option Int :=
  g1 a0 b1
theorem i_gcd_ts : Tails c_i_gcd.pts c_i_gcd.round :=
  ⟨fun s => by
    obtain ⟨_, ⟨a0, b1, _⟩, ⟨_, _, _⟩⟩ := s
    refine Tail.eq (Y := fun g => i_gcd_t1 (fun a0 b1 => g.1 ((), (a0, b1, ()), ((), (), ()))) a0 b1) ?_ (fun g => by kernel_rfl)
    simp only [i_gcd_t1]; repeat (first | exact Tail.const _ | exact Tail.here _ | exact Tail.there (Tail.here _) | exact Tail.there (Tail.there (Tail.here _)) | exact Tail.there (Tail.there (Tail.there (Tail.here _))) | exact Tail.there (Tail.there (Tail.there (Tail.there (Tail.here _)))) | exact Tail.there (Tail.there (Tail.there (Tail.there (Tail.there (Tail.here _))))) | apply Tail.cond | (apply Tail.bind; intro _)), trivial⟩
theorem i_gcd_hs : ∀ x, Tail c_i_gcd.pts (fun g => c_i_gcd.start g x) := fun x => by
    obtain ⟨a0, b1, _⟩ := x
    refine Tail.eq (Y := fun g => i_gcd_t0 (fun a0 b1 => g.1 ((), (a0, b1, ()), ((), (), ()))) a0 b1) ?_ (fun g => by kernel_rfl)
    simp only [i_gcd_t0]; repeat (first | exact Tail.const _ | exact Tail.here _ | exact Tail.there (Tail.here _) | exact Tail.there (Tail.there (Tail.here _)) | exact Tail.there (Tail.there (Tail.there (Tail.here _))) | exact Tail.there (Tail.there (Tail.there (Tail.there (Tail.here _)))) | exact Tail.there (Tail.there (Tail.there (Tail.there (Tail.there (Tail.here _))))) | apply Tail.cond | (apply Tail.bind; intro _))
noncomputable def i_gcd_L1 (a0 : Int) (b1 : Int) : Option Int := c_i_gcd.L.1 ((), (a0, b1, ()), ((), (), ()))
theorem i_gcd_u1 (a0 : Int) (b1 : Int) : i_gcd_L1 a0 b1 = i_gcd_t1 i_gcd_L1 a0 b1 :=
  (congrArg (fun g => g.1 ((), (a0, b1, ()), ((), (), ()))) (FnCx.L_eq i_gcd_ts)).trans (by kernel_rfl)
noncomputable def i_gcd (a0 : Int) (b1 : Int) : Option Int := i_gcd_t0 i_gcd_L1 a0 b1
theorem i_gcd_e (a0 : Int) (b1 : Int) : c_i_gcd.start c_i_gcd.L (a0, b1, ()) = i_gcd a0 b1 := by kernel_rfl
noncomputable def F_i_gcd : Ins c_i_gcd.ins → Option Int := fun x => i_gcd x.1 x.2.1
noncomputable def S_i_gcd : FSpec := mkF c_i_gcd.env.pre c_i_gcd.ins c_i_gcd.out c_i_gcd.inj F_i_gcd
theorem h_i_gcd : Cert Tryz.prog 83 S_i_gcd := FnCx.certF (c := c_i_gcd) F_i_gcd (tyOk _ _ _) (spOk trivial) (fun _ _ _ _ _ hs => evDr_ok (tyOk _ _ _) hs follows) Tryz.func83 rfl rfl Tryz.ntmps83 (by kernel_rfl) rfl rfl (fun _ => rfl) i_gcd_ts i_gcd_hs (fun x t hb ht => by
  obtain ⟨a0, b1, _⟩ := x
  exact (i_gcd_e a0 b1).trans ht)
/-! impl.CountAngles -/
noncomputable def c_i_CountAngles : FnCx := { env := env 21 [(31, S_i_IsSpiral), (74, S_i_isEvery), (83, S_i_gcd)] [], body := bodyOf Tryz.f18, res := [.tmp 4, .tmp 5], ins := [.ro kSpiral, .ro kint], out := [(kint, true), (kbool, true)], T := Int × Bool, fin := fun r => (r.1.1, r.1.2.1), inj := fun t => ((t.1, t.2, ()), ((), (), ())), pts := [], fuel := 400, dr := evDr (env 21 [(31, S_i_IsSpiral), (74, S_i_isEvery), (83, S_i_gcd)] []) }
noncomputable def i_CountAngles (s0_Steps : Int) (s0_Round : Int) (s0_Rise : Int) (every1 : Int) : Option (Int × Bool) :=
  bif !i_IsSpiral s0_Steps s0_Round s0_Rise then some (0, false)
  else
    bif !i_isEvery every1 then some (0, false)
    else Option.bind (i_gcd every1 s0_Round) fun r => bif r == 0 then none else some (IntKind.wrap IntKind.i64 (Int.tdiv s0_Round r), true)
theorem i_CountAngles_e (s0_Steps : Int) (s0_Round : Int) (s0_Rise : Int) (every1 : Int) : c_i_CountAngles.start c_i_CountAngles.L ((s0_Steps, s0_Round, s0_Rise), every1, ()) = i_CountAngles s0_Steps s0_Round s0_Rise every1 := by kernel_rfl
noncomputable def F_i_CountAngles : Ins c_i_CountAngles.ins → Option (Int × Bool) := fun x => i_CountAngles x.1.1 x.1.2.1 x.1.2.2 x.2.1
noncomputable def S_i_CountAngles : FSpec := mkF c_i_CountAngles.env.pre c_i_CountAngles.ins c_i_CountAngles.out c_i_CountAngles.inj F_i_CountAngles
theorem h_i_CountAngles : Cert Tryz.prog 18 S_i_CountAngles := FnCx.certF (c := c_i_CountAngles) F_i_CountAngles (tyOk _ _ _) (spOk ⟨h_i_IsSpiral, fun _ _ h => h, ⟨h_i_isEvery, fun _ _ h => h, ⟨h_i_gcd, fun _ _ h => h, trivial⟩⟩⟩) (fun _ _ _ _ _ hs => evDr_ok (tyOk _ _ _) hs follows) Tryz.func18 rfl rfl Tryz.ntmps18 (by kernel_rfl) rfl rfl (fun _ => rfl) trivial (fun x => .inl ⟨c_i_CountAngles.start () x, fun _ => rfl⟩) (fun x t hb ht => by
  obtain ⟨⟨s0_Steps, s0_Round, s0_Rise⟩, every1, _⟩ := x
  exact (i_CountAngles_e s0_Steps s0_Round s0_Rise every1).trans ht)
/-! spec.spLow -/
noncomputable def c_s_spLow : FnCx := { env := env 22 [] [], body := bodyOf Tryz.f84, res := [.tmp 4, .tmp 5], ins := [.ro kint, .ro kint], out := [(kint, true), (kint, true)], T := Int × Int, fin := fun r => (r.1.1, r.1.2.1), inj := fun t => ((t.1, t.2, ()), ((), (), ())), pts := [([.inLoop [1, 1, 0, 0, 0], .inBlock 0, .code [1, 1, 1]], Shape.mk [] [(0, Ss.one (Cs.sc kint)), (1, Ss.one (Cs.sc kint)), (6, Ss.one (Cs.sc kint)), (7, Ss.one (Cs.sc kint))] [Ss.one (Cs.any), Ss.one (Cs.any)])], fuel := 400, dr := evDr (env 22 [] []) }
noncomputable def s_spLow_t1 (g1 : Int → Int → Int → Int → Option (Int × Int)) (num0 : Int) (den1 : Int) (a6 : Int) (b7 : Int) : Option (Int × Int) :=
  bif decide (b7 > 0) then bif b7 == 0 then none else g1 num0 den1 b7 (Int.tmod a6 b7)
  else bif a6 == 0 then none else bif a6 == 0 then none else some (IntKind.wrap IntKind.i64 (Int.tdiv num0 a6), IntKind.wrap IntKind.i64 (Int.tdiv den1 a6))
noncomputable def s_spLow_t0 (g1 : Int → Int → Int → Int → Option (Int × Int)) (num0 : Int) (den1 : Int) : Option (Int × Int) :=
  g1 num0 den1 num0 den1
theorem s_spLow_ts : Tails c_s_spLow.pts c_s_spLow.round :=
  ⟨fun s => by
    obtain ⟨_, ⟨num0, den1, a6, b7, _⟩, ⟨_, _, _⟩⟩ := s
    refine Tail.eq (Y := fun g => s_spLow_t1 (fun num0 den1 a6 b7 => g.1 ((), (num0, den1, a6, b7, ()), ((), (), ()))) num0 den1 a6 b7) ?_ (fun g => by kernel_rfl)
    simp only [s_spLow_t1]; repeat (first | exact Tail.const _ | exact Tail.here _ | exact Tail.there (Tail.here _) | exact Tail.there (Tail.there (Tail.here _)) | exact Tail.there (Tail.there (Tail.there (Tail.here _))) | exact Tail.there (Tail.there (Tail.there (Tail.there (Tail.here _)))) | exact Tail.there (Tail.there (Tail.there (Tail.there (Tail.there (Tail.here _))))) | apply Tail.cond | (apply Tail.bind; intro _)), trivial⟩
theorem s_spLow_hs : ∀ x, Tail c_s_spLow.pts (fun g => c_s_spLow.start g x) := fun x => by
    obtain ⟨num0, den1, _⟩ := x
    refine Tail.eq (Y := fun g => s_spLow_t0 (fun num0 den1 a6 b7 => g.1 ((), (num0, den1, a6, b7, ()), ((), (), ()))) num0 den1) ?_ (fun g => by kernel_rfl)
    simp only [s_spLow_t0]; repeat (first | exact Tail.const _ | exact Tail.here _ | exact Tail.there (Tail.here _) | exact Tail.there (Tail.there (Tail.here _)) | exact Tail.there (Tail.there (Tail.there (Tail.here _))) | exact Tail.there (Tail.there (Tail.there (Tail.there (Tail.here _)))) | exact Tail.there (Tail.there (Tail.there (Tail.there (Tail.there (Tail.here _))))) | apply Tail.cond | (apply Tail.bind; intro _))
noncomputable def s_spLow_L1 (num0 : Int) (den1 : Int) (a6 : Int) (b7 : Int) : Option (Int × Int) := c_s_spLow.L.1 ((), (num0, den1, a6, b7, ()), ((), (), ()))
theorem s_spLow_u1 (num0 : Int) (den1 : Int) (a6 : Int) (b7 : Int) : s_spLow_L1 num0 den1 a6 b7 = s_spLow_t1 s_spLow_L1 num0 den1 a6 b7 :=
  (congrArg (fun g => g.1 ((), (num0, den1, a6, b7, ()), ((), (), ()))) (FnCx.L_eq s_spLow_ts)).trans (by kernel_rfl)
noncomputable def s_spLow (num0 : Int) (den1 : Int) : Option (Int × Int) := s_spLow_t0 s_spLow_L1 num0 den1
theorem s_spLow_e (num0 : Int) (den1 : Int) : c_s_spLow.start c_s_spLow.L (num0, den1, ()) = s_spLow num0 den1 := by kernel_rfl
noncomputable def F_s_spLow : Ins c_s_spLow.ins → Option (Int × Int) := fun x => s_spLow x.1 x.2.1
noncomputable def S_s_spLow : FSpec := mkF c_s_spLow.env.pre c_s_spLow.ins c_s_spLow.out c_s_spLow.inj F_s_spLow
theorem h_s_spLow : Cert Tryz.prog 84 S_s_spLow := FnCx.certF (c := c_s_spLow) F_s_spLow (tyOk _ _ _) (spOk trivial) (fun _ _ _ _ _ hs => evDr_ok (tyOk _ _ _) hs follows) Tryz.func84 rfl rfl Tryz.ntmps84 (by kernel_rfl) rfl rfl (fun _ => rfl) s_spLow_ts s_spLow_hs (fun x t hb ht => by
  obtain ⟨num0, den1, _⟩ := x
  exact (s_spLow_e num0 den1).trans ht)
/-! spec.CountAngles -/
noncomputable def c_s_CountAngles : FnCx := { env := env 20 [(78, S_s_spEvery), (84, S_s_spLow)] [], body := bodyOf Tryz.f19, res := [.tmp 4, .tmp 5], ins := [.ro kSpiral, .ro kint], out := [(kint, true), (kbool, true)], T := Int × Bool, fin := fun r => (r.1.1, r.1.2.1), inj := fun t => ((t.1, t.2, ()), ((), (), ())), pts := [], fuel := 400, dr := noDr }
noncomputable def s_CountAngles (s0_Steps : Int) (s0_Round : Int) (s0_Rise : Int) (every1 : Int) : Option (Int × Bool) :=
  bif !s_spEvery s0_Steps s0_Round s0_Rise every1 then some (0, false) else Option.bind (s_spLow every1 s0_Round) fun r => some (Prod.snd r, true)
theorem s_CountAngles_e (s0_Steps : Int) (s0_Round : Int) (s0_Rise : Int) (every1 : Int) : c_s_CountAngles.start c_s_CountAngles.L ((s0_Steps, s0_Round, s0_Rise), every1, ()) = s_CountAngles s0_Steps s0_Round s0_Rise every1 := by kernel_rfl
noncomputable def F_s_CountAngles : Ins c_s_CountAngles.ins → Option (Int × Bool) := fun x => s_CountAngles x.1.1 x.1.2.1 x.1.2.2 x.2.1
noncomputable def S_s_CountAngles : FSpec := mkF c_s_CountAngles.env.pre c_s_CountAngles.ins c_s_CountAngles.out c_s_CountAngles.inj F_s_CountAngles
theorem h_s_CountAngles : Cert Tryz.prog 19 S_s_CountAngles := FnCx.certF (c := c_s_CountAngles) F_s_CountAngles (tyOk _ _ _) (spOk ⟨h_s_spEvery, fun _ _ h => h, ⟨h_s_spLow, fun _ _ h => h, trivial⟩⟩) (fun _ _ _ _ _ hs => noDr_ok) Tryz.func19 rfl rfl Tryz.ntmps19 (by kernel_rfl) rfl rfl (fun _ => rfl) trivial (fun x => .inl ⟨c_s_CountAngles.start () x, fun _ => rfl⟩) (fun x t hb ht => by
  obtain ⟨⟨s0_Steps, s0_Round, s0_Rise⟩, every1, _⟩ := x
  exact (s_CountAngles_e s0_Steps s0_Round s0_Rise every1).trans ht)
/-! (impl.Spiral).angle -/
noncomputable def c_i_Spiral_angle : FnCx := { env := env 10 [] [], body := bodyOf Tryz.f87, res := [.tmp 4], ins := [.ro kSpiral, .ro kint], out := [(kint, true)], T := Int, fin := fun r => r.1.1, inj := fun t => ((t, ()), ((), (), ())), pts := [], fuel := 400, dr := noDr }
noncomputable def i_Spiral_angle (s0_Steps : Int) (s0_Round : Int) (s0_Rise : Int) (step1 : Int) : Option Int :=
  bif s0_Round == 0 then none else some (Int.tmod (IntKind.wrap IntKind.i64 (step1 - 1)) s0_Round)
theorem i_Spiral_angle_e (s0_Steps : Int) (s0_Round : Int) (s0_Rise : Int) (step1 : Int) : c_i_Spiral_angle.start c_i_Spiral_angle.L ((s0_Steps, s0_Round, s0_Rise), step1, ()) = i_Spiral_angle s0_Steps s0_Round s0_Rise step1 := by kernel_rfl
noncomputable def F_i_Spiral_angle : Ins c_i_Spiral_angle.ins → Option Int := fun x => i_Spiral_angle x.1.1 x.1.2.1 x.1.2.2 x.2.1
noncomputable def S_i_Spiral_angle : FSpec := mkF c_i_Spiral_angle.env.pre c_i_Spiral_angle.ins c_i_Spiral_angle.out c_i_Spiral_angle.inj F_i_Spiral_angle
theorem h_i_Spiral_angle : Cert Tryz.prog 87 S_i_Spiral_angle := FnCx.certF (c := c_i_Spiral_angle) F_i_Spiral_angle (tyOk _ _ _) (spOk trivial) (fun _ _ _ _ _ hs => noDr_ok) Tryz.func87 rfl rfl Tryz.ntmps87 (by kernel_rfl) rfl rfl (fun _ => rfl) trivial (fun x => .inl ⟨c_i_Spiral_angle.start () x, fun _ => rfl⟩) (fun x t hb ht => by
  obtain ⟨⟨s0_Steps, s0_Round, s0_Rise⟩, step1, _⟩ := x
  exact (i_Spiral_angle_e s0_Steps s0_Round s0_Rise step1).trans ht)
/-! impl.TwinMeets$1 -/
noncomputable def c_i_TwinMeets_c1 : FnCx := { env := env 36 [(87, S_i_Spiral_angle)] [], body := bodyOf Tryz.f86, res := [.tmp 4], ins := [.ro kint, .ptr 25 kSpiral, .ptr 25 kSpiral], out := [(kbool, true)], T := Bool × (Int × Int × Int) × (Int × Int × Int), fin := fun r => (r.1.1, r.2.2.1, r.2.2.2.1), inj := fun t => ((t.1, ()), ((), t.2.1, t.2.2, ())), pts := [([.inLoop [1, 0, 1, 0, 0], .inBlock 0, .code [1, 1]], Shape.mk [Bs.box 25 [Cs.sc kint, Cs.sc kint, Cs.sc kint], Bs.box 25 [Cs.sc kint, Cs.sc kint, Cs.sc kint]] [(0, Ss.one (Cs.sc kint)), (1, Ss.one (Cs.ptr 0 0)), (2, Ss.one (Cs.ptr 1 0)), (5, Ss.one (Cs.sc kint))] [Ss.one (Cs.any), Ss.one (Cs.ptr 0 0), Ss.one (Cs.ptr 1 0)])], fuel := 400, dr := evDr (env 36 [(87, S_i_Spiral_angle)] []) }
noncomputable def i_TwinMeets_c1_t1 (g1 : Int → Int → Int → Int → Int → Int → Int → Int → Option (Bool × (Int × Int × Int) × (Int × Int × Int))) (b0_0 : Int) (b0_1 : Int) (b0_2 : Int) (b1_0 : Int) (b1_1 : Int) (b1_2 : Int) (k0 : Int) (j5 : Int) : Option (Bool × (Int × Int × Int) × (Int × Int × Int)) :=
  bif decide (j5 ≤ b0_0) then
    bif IntKind.wrap IntKind.i64 (k0 * b1_2) == IntKind.wrap IntKind.i64 (j5 * b0_2) then
      Option.bind (i_Spiral_angle b1_0 b1_1 b1_2 k0) fun r =>
        Option.bind (i_Spiral_angle b0_0 b0_1 b0_2 j5) fun r_1 =>
          bif IntKind.wrap IntKind.i64 (r * b0_1) == IntKind.wrap IntKind.i64 (r_1 * b1_1) then some (true, (b0_0, b0_1, b0_2), b1_0, b1_1, b1_2)
          else g1 b0_0 b0_1 b0_2 b1_0 b1_1 b1_2 k0 (IntKind.wrap IntKind.i64 (j5 + 1))
    else g1 b0_0 b0_1 b0_2 b1_0 b1_1 b1_2 k0 (IntKind.wrap IntKind.i64 (j5 + 1))
  else some (false, (b0_0, b0_1, b0_2), b1_0, b1_1, b1_2)
noncomputable def i_TwinMeets_c1_t0 (g1 : Int → Int → Int → Int → Int → Int → Int → Int → Option (Bool × (Int × Int × Int) × (Int × Int × Int))) (k0 : Int) (x1_Steps : Int) (x1_Round : Int) (x1_Rise : Int) (x2_Steps : Int) (x2_Round : Int) (x2_Rise : Int) : Option (Bool × (Int × Int × Int) × (Int × Int × Int)) :=
  g1 x1_Steps x1_Round x1_Rise x2_Steps x2_Round x2_Rise k0 1
theorem i_TwinMeets_c1_ts : Tails c_i_TwinMeets_c1.pts c_i_TwinMeets_c1.round :=
  ⟨fun s => by
    obtain ⟨⟨⟨b0_0, b0_1, b0_2, _⟩, ⟨b1_0, b1_1, b1_2, _⟩, _⟩, ⟨k0, _, _, j5, _⟩, ⟨_, _, _, _⟩⟩ := s
    refine Tail.eq (Y := fun g => i_TwinMeets_c1_t1 (fun b0_0 b0_1 b0_2 b1_0 b1_1 b1_2 k0 j5 => g.1 (((b0_0, b0_1, b0_2, ()), (b1_0, b1_1, b1_2, ()), ()), (k0, (), (), j5, ()), ((), (), (), ()))) b0_0 b0_1 b0_2 b1_0 b1_1 b1_2 k0 j5) ?_ (fun g => by kernel_rfl)
    simp only [i_TwinMeets_c1_t1]; repeat (first | exact Tail.const _ | exact Tail.here _ | exact Tail.there (Tail.here _) | exact Tail.there (Tail.there (Tail.here _)) | exact Tail.there (Tail.there (Tail.there (Tail.here _))) | exact Tail.there (Tail.there (Tail.there (Tail.there (Tail.here _)))) | exact Tail.there (Tail.there (Tail.there (Tail.there (Tail.there (Tail.here _))))) | apply Tail.cond | (apply Tail.bind; intro _)), trivial⟩
theorem i_TwinMeets_c1_hs : ∀ x, Tail c_i_TwinMeets_c1.pts (fun g => c_i_TwinMeets_c1.start g x) := fun x => by
    obtain ⟨k0, ⟨x1_Steps, x1_Round, x1_Rise⟩, ⟨x2_Steps, x2_Round, x2_Rise⟩, _⟩ := x
    refine Tail.eq (Y := fun g => i_TwinMeets_c1_t0 (fun b0_0 b0_1 b0_2 b1_0 b1_1 b1_2 k0 j5 => g.1 (((b0_0, b0_1, b0_2, ()), (b1_0, b1_1, b1_2, ()), ()), (k0, (), (), j5, ()), ((), (), (), ()))) k0 x1_Steps x1_Round x1_Rise x2_Steps x2_Round x2_Rise) ?_ (fun g => by kernel_rfl)
    simp only [i_TwinMeets_c1_t0]; repeat (first | exact Tail.const _ | exact Tail.here _ | exact Tail.there (Tail.here _) | exact Tail.there (Tail.there (Tail.here _)) | exact Tail.there (Tail.there (Tail.there (Tail.here _))) | exact Tail.there (Tail.there (Tail.there (Tail.there (Tail.here _)))) | exact Tail.there (Tail.there (Tail.there (Tail.there (Tail.there (Tail.here _))))) | apply Tail.cond | (apply Tail.bind; intro _))
noncomputable def i_TwinMeets_c1_L1 (b0_0 : Int) (b0_1 : Int) (b0_2 : Int) (b1_0 : Int) (b1_1 : Int) (b1_2 : Int) (k0 : Int) (j5 : Int) : Option (Bool × (Int × Int × Int) × (Int × Int × Int)) := c_i_TwinMeets_c1.L.1 (((b0_0, b0_1, b0_2, ()), (b1_0, b1_1, b1_2, ()), ()), (k0, (), (), j5, ()), ((), (), (), ()))
theorem i_TwinMeets_c1_u1 (b0_0 : Int) (b0_1 : Int) (b0_2 : Int) (b1_0 : Int) (b1_1 : Int) (b1_2 : Int) (k0 : Int) (j5 : Int) : i_TwinMeets_c1_L1 b0_0 b0_1 b0_2 b1_0 b1_1 b1_2 k0 j5 = i_TwinMeets_c1_t1 i_TwinMeets_c1_L1 b0_0 b0_1 b0_2 b1_0 b1_1 b1_2 k0 j5 :=
  (congrArg (fun g => g.1 (((b0_0, b0_1, b0_2, ()), (b1_0, b1_1, b1_2, ()), ()), (k0, (), (), j5, ()), ((), (), (), ()))) (FnCx.L_eq i_TwinMeets_c1_ts)).trans (by kernel_rfl)
noncomputable def i_TwinMeets_c1 (k0 : Int) (x1_Steps : Int) (x1_Round : Int) (x1_Rise : Int) (x2_Steps : Int) (x2_Round : Int) (x2_Rise : Int) : Option (Bool × (Int × Int × Int) × (Int × Int × Int)) := i_TwinMeets_c1_t0 i_TwinMeets_c1_L1 k0 x1_Steps x1_Round x1_Rise x2_Steps x2_Round x2_Rise
theorem i_TwinMeets_c1_e (k0 : Int) (x1_Steps : Int) (x1_Round : Int) (x1_Rise : Int) (x2_Steps : Int) (x2_Round : Int) (x2_Rise : Int) : c_i_TwinMeets_c1.start c_i_TwinMeets_c1.L (k0, (x1_Steps, x1_Round, x1_Rise), (x2_Steps, x2_Round, x2_Rise), ()) = i_TwinMeets_c1 k0 x1_Steps x1_Round x1_Rise x2_Steps x2_Round x2_Rise := by kernel_rfl
noncomputable def F_i_TwinMeets_c1 : Ins c_i_TwinMeets_c1.ins → Option (Bool × (Int × Int × Int) × (Int × Int × Int)) := fun x => i_TwinMeets_c1 x.1 x.2.1.1 x.2.1.2.1 x.2.1.2.2 x.2.2.1.1 x.2.2.1.2.1 x.2.2.1.2.2
noncomputable def S_i_TwinMeets_c1 : FSpec := mkF c_i_TwinMeets_c1.env.pre c_i_TwinMeets_c1.ins c_i_TwinMeets_c1.out c_i_TwinMeets_c1.inj F_i_TwinMeets_c1
theorem h_i_TwinMeets_c1 : Cert Tryz.prog 86 S_i_TwinMeets_c1 := FnCx.certF (c := c_i_TwinMeets_c1) F_i_TwinMeets_c1 (tyOk _ _ _) (spOk ⟨h_i_Spiral_angle, fun _ _ h => h, trivial⟩) (fun _ _ _ _ _ hs => evDr_ok (tyOk _ _ _) hs follows) Tryz.func86 rfl rfl Tryz.ntmps86 (by kernel_rfl) rfl rfl (fun _ => rfl) i_TwinMeets_c1_ts i_TwinMeets_c1_hs (fun x t hb ht => by
  obtain ⟨k0, ⟨x1_Steps, x1_Round, x1_Rise⟩, ⟨x2_Steps, x2_Round, x2_Rise⟩, _⟩ := x
  exact (i_TwinMeets_c1_e k0 x1_Steps x1_Round x1_Rise x2_Steps x2_Round x2_Rise).trans ht)
/-! (impl.Spiral).those -/
noncomputable def c_i_Spiral_those__i_TwinMeets_c1 : FnCx := { env := env 22 [(86, S_i_TwinMeets_c1)] [], body := bodyOf Tryz.f76, res := [.tmp 4], ins := [.ro kSpiral, .fn 86 [(25, kSpiral), (25, kSpiral)]], out := [(kSint, true)], T := List Int × (Int × Int × Int) × (Int × Int × Int), fin := fun r => (r.1.1, r.2.2.1.1, r.2.2.1.2.1), inj := fun t => ((t.1, ()), ((), (t.2.1, t.2.2, ()), ())), pts := [([.inLoop [1, 1, 0, 1, 0, 0], .inBlock 0, .code [1, 1, 1]], Shape.mk [Bs.box 25 [Cs.sc kint, Cs.sc kint, Cs.sc kint], Bs.box 25 [Cs.sc kint, Cs.sc kint, Cs.sc kint], Bs.box 25 [Cs.sc kint, Cs.sc kint, Cs.sc kint], Bs.row kint 3 true] [(1, Ss.fn 86 [Cs.ptr 0 0, Cs.ptr 1 0]), (2, Ss.one (Cs.ptr 2 0)), (5, Ss.one (Cs.sl 3)), (6, Ss.one (Cs.sc kint))] [Ss.one (Cs.any), Ss.fn 86 [Cs.ptr 0 0, Cs.ptr 1 0]])], fuel := 400, dr := noDr }
noncomputable def i_Spiral_those__i_TwinMeets_c1_t1 (g1 : Int → Int → Int → Int → Int → Int → Int → Int → Int → List (Int) → Int → Option (List Int × (Int × Int × Int) × (Int × Int × Int))) (b0_0 : Int) (b0_1 : Int) (b0_2 : Int) (b1_0 : Int) (b1_1 : Int) (b1_2 : Int) (b2_0 : Int) (b2_1 : Int) (b2_2 : Int) (r3 : List (Int)) (k6 : Int) : Option (List Int × (Int × Int × Int) × (Int × Int × Int)) :=
  bif decide (k6 ≤ b2_0) then
    Option.bind (i_TwinMeets_c1 k6 b0_0 b0_1 b0_2 b1_0 b1_1 b1_2) fun r =>
      bif Prod.fst r then
        bif Nat.ble (List.length r3 + 1) 4294967296 then
          g1 (Prod.fst (Prod.fst (Prod.snd r))) (Prod.fst (Prod.snd (Prod.fst (Prod.snd r)))) (Prod.snd (Prod.snd (Prod.fst (Prod.snd r))))
            (Prod.fst (Prod.snd (Prod.snd r))) (Prod.fst (Prod.snd (Prod.snd (Prod.snd r)))) (Prod.snd (Prod.snd (Prod.snd (Prod.snd r)))) b2_0 b2_1 b2_2
            (r3 ++ [k6]) (IntKind.wrap IntKind.i64 (k6 + 1))
        else none
      else
        g1 (Prod.fst (Prod.fst (Prod.snd r))) (Prod.fst (Prod.snd (Prod.fst (Prod.snd r)))) (Prod.snd (Prod.snd (Prod.fst (Prod.snd r))))
          (Prod.fst (Prod.snd (Prod.snd r))) (Prod.fst (Prod.snd (Prod.snd (Prod.snd r)))) (Prod.snd (Prod.snd (Prod.snd (Prod.snd r)))) b2_0 b2_1 b2_2 r3
          (IntKind.wrap IntKind.i64 (k6 + 1))
  else some (r3, (b0_0, b0_1, b0_2), b1_0, b1_1, b1_2)
noncomputable def i_Spiral_those__i_TwinMeets_c1_t0 (g1 : Int → Int → Int → Int → Int → Int → Int → Int → Int → List (Int) → Int → Option (List Int × (Int × Int × Int) × (Int × Int × Int))) (s0_Steps : Int) (s0_Round : Int) (s0_Rise : Int) (holds1_0_Steps : Int) (holds1_0_Round : Int) (holds1_0_Rise : Int) (holds1_1_Steps : Int) (holds1_1_Round : Int) (holds1_1_Rise : Int) : Option (List Int × (Int × Int × Int) × (Int × Int × Int)) :=
  g1 holds1_0_Steps holds1_0_Round holds1_0_Rise holds1_1_Steps holds1_1_Round holds1_1_Rise s0_Steps s0_Round s0_Rise [] 1
theorem i_Spiral_those__i_TwinMeets_c1_ts : Tails c_i_Spiral_those__i_TwinMeets_c1.pts c_i_Spiral_those__i_TwinMeets_c1.round :=
  ⟨fun s => by
    obtain ⟨⟨⟨b0_0, b0_1, b0_2, _⟩, ⟨b1_0, b1_1, b1_2, _⟩, ⟨b2_0, b2_1, b2_2, _⟩, r3, _⟩, ⟨⟨_, _, _⟩, _, _, k6, _⟩, ⟨_, ⟨_, _, _⟩, _⟩⟩ := s
    refine Tail.eq (Y := fun g => i_Spiral_those__i_TwinMeets_c1_t1 (fun b0_0 b0_1 b0_2 b1_0 b1_1 b1_2 b2_0 b2_1 b2_2 r3 k6 => g.1 (((b0_0, b0_1, b0_2, ()), (b1_0, b1_1, b1_2, ()), (b2_0, b2_1, b2_2, ()), r3, ()), (((), (), ()), (), (), k6, ()), ((), ((), (), ()), ()))) b0_0 b0_1 b0_2 b1_0 b1_1 b1_2 b2_0 b2_1 b2_2 r3 k6) ?_ (fun g => by kernel_rfl)
    simp only [i_Spiral_those__i_TwinMeets_c1_t1]; repeat (first | exact Tail.const _ | exact Tail.here _ | exact Tail.there (Tail.here _) | exact Tail.there (Tail.there (Tail.here _)) | exact Tail.there (Tail.there (Tail.there (Tail.here _))) | exact Tail.there (Tail.there (Tail.there (Tail.there (Tail.here _)))) | exact Tail.there (Tail.there (Tail.there (Tail.there (Tail.there (Tail.here _))))) | apply Tail.cond | (apply Tail.bind; intro _)), trivial⟩
theorem i_Spiral_those__i_TwinMeets_c1_hs : ∀ x, Tail c_i_Spiral_those__i_TwinMeets_c1.pts (fun g => c_i_Spiral_those__i_TwinMeets_c1.start g x) := fun x => by
    obtain ⟨⟨s0_Steps, s0_Round, s0_Rise⟩, ⟨⟨holds1_0_Steps, holds1_0_Round, holds1_0_Rise⟩, ⟨holds1_1_Steps, holds1_1_Round, holds1_1_Rise⟩, _⟩, _⟩ := x
    refine Tail.eq (Y := fun g => i_Spiral_those__i_TwinMeets_c1_t0 (fun b0_0 b0_1 b0_2 b1_0 b1_1 b1_2 b2_0 b2_1 b2_2 r3 k6 => g.1 (((b0_0, b0_1, b0_2, ()), (b1_0, b1_1, b1_2, ()), (b2_0, b2_1, b2_2, ()), r3, ()), (((), (), ()), (), (), k6, ()), ((), ((), (), ()), ()))) s0_Steps s0_Round s0_Rise holds1_0_Steps holds1_0_Round holds1_0_Rise holds1_1_Steps holds1_1_Round holds1_1_Rise) ?_ (fun g => by kernel_rfl)
    simp only [i_Spiral_those__i_TwinMeets_c1_t0]; repeat (first | exact Tail.const _ | exact Tail.here _ | exact Tail.there (Tail.here _) | exact Tail.there (Tail.there (Tail.here _)) | exact Tail.there (Tail.there (Tail.there (Tail.here _))) | exact Tail.there (Tail.there (Tail.there (Tail.there (Tail.here _)))) | exact Tail.there (Tail.there (Tail.there (Tail.there (Tail.there (Tail.here _))))) | apply Tail.cond | (apply Tail.bind; intro _))
noncomputable def i_Spiral_those__i_TwinMeets_c1_L1 (b0_0 : Int) (b0_1 : Int) (b0_2 : Int) (b1_0 : Int) (b1_1 : Int) (b1_2 : Int) (b2_0 : Int) (b2_1 : Int) (b2_2 : Int) (r3 : List (Int)) (k6 : Int) : Option (List Int × (Int × Int × Int) × (Int × Int × Int)) := c_i_Spiral_those__i_TwinMeets_c1.L.1 (((b0_0, b0_1, b0_2, ()), (b1_0, b1_1, b1_2, ()), (b2_0, b2_1, b2_2, ()), r3, ()), (((), (), ()), (), (), k6, ()), ((), ((), (), ()), ()))
theorem i_Spiral_those__i_TwinMeets_c1_u1 (b0_0 : Int) (b0_1 : Int) (b0_2 : Int) (b1_0 : Int) (b1_1 : Int) (b1_2 : Int) (b2_0 : Int) (b2_1 : Int) (b2_2 : Int) (r3 : List (Int)) (k6 : Int) : i_Spiral_those__i_TwinMeets_c1_L1 b0_0 b0_1 b0_2 b1_0 b1_1 b1_2 b2_0 b2_1 b2_2 r3 k6 = i_Spiral_those__i_TwinMeets_c1_t1 i_Spiral_those__i_TwinMeets_c1_L1 b0_0 b0_1 b0_2 b1_0 b1_1 b1_2 b2_0 b2_1 b2_2 r3 k6 :=
  (congrArg (fun g => g.1 (((b0_0, b0_1, b0_2, ()), (b1_0, b1_1, b1_2, ()), (b2_0, b2_1, b2_2, ()), r3, ()), (((), (), ()), (), (), k6, ()), ((), ((), (), ()), ()))) (FnCx.L_eq i_Spiral_those__i_TwinMeets_c1_ts)).trans (by kernel_rfl)
noncomputable def i_Spiral_those__i_TwinMeets_c1 (s0_Steps : Int) (s0_Round : Int) (s0_Rise : Int) (holds1_0_Steps : Int) (holds1_0_Round : Int) (holds1_0_Rise : Int) (holds1_1_Steps : Int) (holds1_1_Round : Int) (holds1_1_Rise : Int) : Option (List Int × (Int × Int × Int) × (Int × Int × Int)) := i_Spiral_those__i_TwinMeets_c1_t0 i_Spiral_those__i_TwinMeets_c1_L1 s0_Steps s0_Round s0_Rise holds1_0_Steps holds1_0_Round holds1_0_Rise holds1_1_Steps holds1_1_Round holds1_1_Rise
theorem i_Spiral_those__i_TwinMeets_c1_e (s0_Steps : Int) (s0_Round : Int) (s0_Rise : Int) (holds1_0_Steps : Int) (holds1_0_Round : Int) (holds1_0_Rise : Int) (holds1_1_Steps : Int) (holds1_1_Round : Int) (holds1_1_Rise : Int) : c_i_Spiral_those__i_TwinMeets_c1.start c_i_Spiral_those__i_TwinMeets_c1.L ((s0_Steps, s0_Round, s0_Rise), ((holds1_0_Steps, holds1_0_Round, holds1_0_Rise), (holds1_1_Steps, holds1_1_Round, holds1_1_Rise), ()), ()) = i_Spiral_those__i_TwinMeets_c1 s0_Steps s0_Round s0_Rise holds1_0_Steps holds1_0_Round holds1_0_Rise holds1_1_Steps holds1_1_Round holds1_1_Rise := by kernel_rfl
noncomputable def F_i_Spiral_those__i_TwinMeets_c1 : Ins c_i_Spiral_those__i_TwinMeets_c1.ins → Option (List Int × (Int × Int × Int) × (Int × Int × Int)) := fun x => i_Spiral_those__i_TwinMeets_c1 x.1.1 x.1.2.1 x.1.2.2 x.2.1.1.1 x.2.1.1.2.1 x.2.1.1.2.2 x.2.1.2.1.1 x.2.1.2.1.2.1 x.2.1.2.1.2.2
noncomputable def S_i_Spiral_those__i_TwinMeets_c1 : FSpec := mkF c_i_Spiral_those__i_TwinMeets_c1.env.pre c_i_Spiral_those__i_TwinMeets_c1.ins c_i_Spiral_those__i_TwinMeets_c1.out c_i_Spiral_those__i_TwinMeets_c1.inj F_i_Spiral_those__i_TwinMeets_c1
theorem h_i_Spiral_those__i_TwinMeets_c1 : Cert Tryz.prog 76 S_i_Spiral_those__i_TwinMeets_c1 := FnCx.certF (c := c_i_Spiral_those__i_TwinMeets_c1) F_i_Spiral_those__i_TwinMeets_c1 (tyOk _ _ _) (spOk ⟨h_i_TwinMeets_c1, fun _ _ h => h, trivial⟩) (fun _ _ _ _ _ hs => noDr_ok) Tryz.func76 rfl rfl Tryz.ntmps76 (by kernel_rfl) rfl rfl (fun _ => rfl) i_Spiral_those__i_TwinMeets_c1_ts i_Spiral_those__i_TwinMeets_c1_hs (fun x t hb ht => by
  obtain ⟨⟨s0_Steps, s0_Round, s0_Rise⟩, ⟨⟨holds1_0_Steps, holds1_0_Round, holds1_0_Rise⟩, ⟨holds1_1_Steps, holds1_1_Round, holds1_1_Rise⟩, _⟩, _⟩ := x
  exact (i_Spiral_those__i_TwinMeets_c1_e s0_Steps s0_Round s0_Rise holds1_0_Steps holds1_0_Round holds1_0_Rise holds1_1_Steps holds1_1_Round holds1_1_Rise).trans ht)
/-! impl.TwinMeets -/
noncomputable def c_i_TwinMeets : FnCx := { env := env 17 [(31, S_i_IsSpiral), (76, S_i_Spiral_those__i_TwinMeets_c1)] [], body := bodyOf Tryz.f21, res := [.tmp 4, .tmp 5], ins := [.ro kSpiral, .ro kSpiral], out := [(kSint, true), (kbool, true)], T := List Int × Bool, fin := fun r => (r.1.1, r.1.2.1), inj := fun t => ((t.1, t.2, ()), ((), (), ())), pts := [], fuel := 400, dr := noDr }
noncomputable def i_TwinMeets (s0_Steps : Int) (s0_Round : Int) (s0_Rise : Int) (t1_Steps : Int) (t1_Round : Int) (t1_Rise : Int) : Option (List Int × Bool) :=
  bif !i_IsSpiral s0_Steps s0_Round s0_Rise then some ([], false)
  else
    bif !i_IsSpiral t1_Steps t1_Round t1_Rise then some ([], false)
    else
      Option.bind (i_Spiral_those__i_TwinMeets_c1 s0_Steps s0_Round s0_Rise t1_Steps t1_Round t1_Rise s0_Steps s0_Round s0_Rise) fun r => some (Prod.fst r, true)
theorem i_TwinMeets_e (s0_Steps : Int) (s0_Round : Int) (s0_Rise : Int) (t1_Steps : Int) (t1_Round : Int) (t1_Rise : Int) : c_i_TwinMeets.start c_i_TwinMeets.L ((s0_Steps, s0_Round, s0_Rise), (t1_Steps, t1_Round, t1_Rise), ()) = i_TwinMeets s0_Steps s0_Round s0_Rise t1_Steps t1_Round t1_Rise := by kernel_rfl
noncomputable def F_i_TwinMeets : Ins c_i_TwinMeets.ins → Option (List Int × Bool) := fun x => i_TwinMeets x.1.1 x.1.2.1 x.1.2.2 x.2.1.1 x.2.1.2.1 x.2.1.2.2
noncomputable def S_i_TwinMeets : FSpec := mkF c_i_TwinMeets.env.pre c_i_TwinMeets.ins c_i_TwinMeets.out c_i_TwinMeets.inj F_i_TwinMeets
theorem h_i_TwinMeets : Cert Tryz.prog 21 S_i_TwinMeets := FnCx.certF (c := c_i_TwinMeets) F_i_TwinMeets (tyOk _ _ _) (spOk ⟨h_i_IsSpiral, fun _ _ h => h, ⟨h_i_Spiral_those__i_TwinMeets_c1, fun _ _ h => h, trivial⟩⟩) (fun _ _ _ _ _ hs => noDr_ok) Tryz.func21 rfl rfl Tryz.ntmps21 (by kernel_rfl) rfl rfl (fun _ => rfl) trivial (fun x => .inl ⟨c_i_TwinMeets.start () x, fun _ => rfl⟩) (fun x t hb ht => by
  obtain ⟨⟨s0_Steps, s0_Round, s0_Rise⟩, ⟨t1_Steps, t1_Round, t1_Rise⟩, _⟩ := x
  exact (i_TwinMeets_e s0_Steps s0_Round s0_Rise t1_Steps t1_Round t1_Rise).trans ht)
/-! spec.TwinMeets -/
noncomputable def c_s_TwinMeets : FnCx := { env := env 67 [(81, S_s_spGood)] [], body := bodyOf Tryz.f22, res := [.tmp 4, .tmp 5], ins := [.ro kSpiral, .ro kSpiral], out := [(kSint, true), (kbool, true)], T := List Int × Bool, fin := fun r => (r.1.1, r.1.2.1), inj := fun t => ((t.1, t.2, ()), ((), (), ())), pts := [([.inLoop [1, 1, 1, 0, 1, 0, 0], .inBlock 0, .code [1, 1, 1, 1]], Shape.mk [Bs.box 25 [Cs.sc kint, Cs.sc kint, Cs.sc kint], Bs.box 25 [Cs.sc kint, Cs.sc kint, Cs.sc kint], Bs.row kint 3 true] [(2, Ss.one (Cs.ptr 0 0)), (3, Ss.one (Cs.ptr 1 0)), (6, Ss.one (Cs.sl 2)), (7, Ss.one (Cs.sc kint))] [Ss.one (Cs.any), Ss.one (Cs.any)])], fuel := 400, dr := evDr (env 67 [(81, S_s_spGood)] []) }
noncomputable def s_TwinMeets_t1 (g1 : Int → Int → Int → Int → Int → Int → List (Int) → Int → Option (List Int × Bool)) (b0_0 : Int) (b0_1 : Int) (b0_2 : Int) (b1_0 : Int) (b1_1 : Int) (b1_2 : Int) (r2 : List (Int)) (step7 : Int) : Option (List Int × Bool) :=
  bif decide (step7 ≤ b0_0) then
    bif b1_2 == 0 then none
    else
      bif Int.tmod (IntKind.wrap IntKind.i64 (step7 * b0_2)) b1_2 != 0 then g1 b0_0 b0_1 b0_2 b1_0 b1_1 b1_2 r2 (IntKind.wrap IntKind.i64 (step7 + 1))
      else
        bif b1_2 == 0 then none
        else
          bif decide (IntKind.wrap IntKind.i64 (Int.tdiv (IntKind.wrap IntKind.i64 (step7 * b0_2)) b1_2) > b1_0) then
            g1 b0_0 b0_1 b0_2 b1_0 b1_1 b1_2 r2 (IntKind.wrap IntKind.i64 (step7 + 1))
          else
            bif b1_2 == 0 then none
            else
              bif IntKind.wrap IntKind.i64 (b0_1 * b1_1) == 0 then none
              else
                bif
                    Int.tmod
                        (IntKind.wrap IntKind.i64
                          (IntKind.wrap IntKind.i64 (IntKind.wrap IntKind.i64 (step7 - 1) * b1_1) -
                            IntKind.wrap IntKind.i64
                              (IntKind.wrap IntKind.i64 (IntKind.wrap IntKind.i64 (Int.tdiv (IntKind.wrap IntKind.i64 (step7 * b0_2)) b1_2) - 1) * b0_1)))
                        (IntKind.wrap IntKind.i64 (b0_1 * b1_1)) ==
                      0 then
                  bif Nat.ble (List.length r2 + 1) 4294967296 then g1 b0_0 b0_1 b0_2 b1_0 b1_1 b1_2 (r2 ++ [step7]) (IntKind.wrap IntKind.i64 (step7 + 1))
                  else none
                else g1 b0_0 b0_1 b0_2 b1_0 b1_1 b1_2 r2 (IntKind.wrap IntKind.i64 (step7 + 1))
  else some (r2, true)
noncomputable def s_TwinMeets_t0 (g1 : Int → Int → Int → Int → Int → Int → List (Int) → Int → Option (List Int × Bool)) (s0_Steps : Int) (s0_Round : Int) (s0_Rise : Int) (t1_Steps : Int) (t1_Round : Int) (t1_Rise : Int) : Option (List Int × Bool) :=
  bif !s_spGood s0_Steps s0_Round s0_Rise then some ([], false)
  else bif !s_spGood t1_Steps t1_Round t1_Rise then some ([], false) else g1 s0_Steps s0_Round s0_Rise t1_Steps t1_Round t1_Rise [] 1
theorem s_TwinMeets_ts : Tails c_s_TwinMeets.pts c_s_TwinMeets.round :=
  ⟨fun s => by
    obtain ⟨⟨⟨b0_0, b0_1, b0_2, _⟩, ⟨b1_0, b1_1, b1_2, _⟩, r2, _⟩, ⟨_, _, _, step7, _⟩, ⟨_, _, _⟩⟩ := s
    refine Tail.eq (Y := fun g => s_TwinMeets_t1 (fun b0_0 b0_1 b0_2 b1_0 b1_1 b1_2 r2 step7 => g.1 (((b0_0, b0_1, b0_2, ()), (b1_0, b1_1, b1_2, ()), r2, ()), ((), (), (), step7, ()), ((), (), ()))) b0_0 b0_1 b0_2 b1_0 b1_1 b1_2 r2 step7) ?_ (fun g => by kernel_rfl)
    simp only [s_TwinMeets_t1]; repeat (first | exact Tail.const _ | exact Tail.here _ | exact Tail.there (Tail.here _) | exact Tail.there (Tail.there (Tail.here _)) | exact Tail.there (Tail.there (Tail.there (Tail.here _))) | exact Tail.there (Tail.there (Tail.there (Tail.there (Tail.here _)))) | exact Tail.there (Tail.there (Tail.there (Tail.there (Tail.there (Tail.here _))))) | apply Tail.cond | (apply Tail.bind; intro _)), trivial⟩
theorem s_TwinMeets_hs : ∀ x, Tail c_s_TwinMeets.pts (fun g => c_s_TwinMeets.start g x) := fun x => by
    obtain ⟨⟨s0_Steps, s0_Round, s0_Rise⟩, ⟨t1_Steps, t1_Round, t1_Rise⟩, _⟩ := x
    refine Tail.eq (Y := fun g => s_TwinMeets_t0 (fun b0_0 b0_1 b0_2 b1_0 b1_1 b1_2 r2 step7 => g.1 (((b0_0, b0_1, b0_2, ()), (b1_0, b1_1, b1_2, ()), r2, ()), ((), (), (), step7, ()), ((), (), ()))) s0_Steps s0_Round s0_Rise t1_Steps t1_Round t1_Rise) ?_ (fun g => by kernel_rfl)
    simp only [s_TwinMeets_t0]; repeat (first | exact Tail.const _ | exact Tail.here _ | exact Tail.there (Tail.here _) | exact Tail.there (Tail.there (Tail.here _)) | exact Tail.there (Tail.there (Tail.there (Tail.here _))) | exact Tail.there (Tail.there (Tail.there (Tail.there (Tail.here _)))) | exact Tail.there (Tail.there (Tail.there (Tail.there (Tail.there (Tail.here _))))) | apply Tail.cond | (apply Tail.bind; intro _))
noncomputable def s_TwinMeets_L1 (b0_0 : Int) (b0_1 : Int) (b0_2 : Int) (b1_0 : Int) (b1_1 : Int) (b1_2 : Int) (r2 : List (Int)) (step7 : Int) : Option (List Int × Bool) := c_s_TwinMeets.L.1 (((b0_0, b0_1, b0_2, ()), (b1_0, b1_1, b1_2, ()), r2, ()), ((), (), (), step7, ()), ((), (), ()))
theorem s_TwinMeets_u1 (b0_0 : Int) (b0_1 : Int) (b0_2 : Int) (b1_0 : Int) (b1_1 : Int) (b1_2 : Int) (r2 : List (Int)) (step7 : Int) : s_TwinMeets_L1 b0_0 b0_1 b0_2 b1_0 b1_1 b1_2 r2 step7 = s_TwinMeets_t1 s_TwinMeets_L1 b0_0 b0_1 b0_2 b1_0 b1_1 b1_2 r2 step7 :=
  (congrArg (fun g => g.1 (((b0_0, b0_1, b0_2, ()), (b1_0, b1_1, b1_2, ()), r2, ()), ((), (), (), step7, ()), ((), (), ()))) (FnCx.L_eq s_TwinMeets_ts)).trans (by kernel_rfl)
noncomputable def s_TwinMeets (s0_Steps : Int) (s0_Round : Int) (s0_Rise : Int) (t1_Steps : Int) (t1_Round : Int) (t1_Rise : Int) : Option (List Int × Bool) := s_TwinMeets_t0 s_TwinMeets_L1 s0_Steps s0_Round s0_Rise t1_Steps t1_Round t1_Rise
theorem s_TwinMeets_e (s0_Steps : Int) (s0_Round : Int) (s0_Rise : Int) (t1_Steps : Int) (t1_Round : Int) (t1_Rise : Int) : c_s_TwinMeets.start c_s_TwinMeets.L ((s0_Steps, s0_Round, s0_Rise), (t1_Steps, t1_Round, t1_Rise), ()) = s_TwinMeets s0_Steps s0_Round s0_Rise t1_Steps t1_Round t1_Rise := by kernel_rfl
noncomputable def F_s_TwinMeets : Ins c_s_TwinMeets.ins → Option (List Int × Bool) := fun x => s_TwinMeets x.1.1 x.1.2.1 x.1.2.2 x.2.1.1 x.2.1.2.1 x.2.1.2.2
noncomputable def S_s_TwinMeets : FSpec := mkF c_s_TwinMeets.env.pre c_s_TwinMeets.ins c_s_TwinMeets.out c_s_TwinMeets.inj F_s_TwinMeets
theorem h_s_TwinMeets : Cert Tryz.prog 22 S_s_TwinMeets := FnCx.certF (c := c_s_TwinMeets) F_s_TwinMeets (tyOk _ _ _) (spOk ⟨h_s_spGood, fun _ _ h => h, trivial⟩) (fun _ _ _ _ _ hs => evDr_ok (tyOk _ _ _) hs follows) Tryz.func22 rfl rfl Tryz.ntmps22 (by kernel_rfl) rfl rfl (fun _ => rfl) s_TwinMeets_ts s_TwinMeets_hs (fun x t hb ht => by
  obtain ⟨⟨s0_Steps, s0_Round, s0_Rise⟩, ⟨t1_Steps, t1_Round, t1_Rise⟩, _⟩ := x
  exact (s_TwinMeets_e s0_Steps s0_Round s0_Rise t1_Steps t1_Round t1_Rise).trans ht)
/-! (impl.Spiral).has -/
noncomputable def c_i_Spiral_has : FnCx := { env := env 21 [(75, S_i_within), (31, S_i_IsSpiral)] [], body := bodyOf Tryz.f89, res := [.tmp 4], ins := [.ro kSpiral, .ro kSint], out := [(kbool, true)], T := Bool, fin := fun r => r.1.1, inj := fun t => ((t, ()), ((), (), ())), pts := [([.inLoop [1, 0, 1, 0, 0], .inBlock 0, .code [1, 1]], Shape.mk [Bs.box 25 [Cs.sc kint, Cs.sc kint, Cs.sc kint], Bs.row kint 3 false] [(2, Ss.one (Cs.ptr 0 0)), (7, Ss.one (Cs.sl 1)), (8, Ss.one (Cs.sc kint)), (9, Ss.one (Cs.sc kint))] [Ss.one (Cs.any), Ss.one (Cs.any)])], fuel := 400, dr := noDr }
noncomputable def i_Spiral_has_t1 (g1 : Int → Int → Int → List (Int) → Int → Int → Option (Bool)) (b0_0 : Int) (b0_1 : Int) (b0_2 : Int) (r1 : List (Int)) (s8 : Int) (s9 : Int) : Option Bool :=
  bif decide (s9 < s8) then
    bif decide (0 ≤ s9) then
      bif decide (s9 < (↑(List.length r1) : Int)) then
        bif !i_within (rdk kint r1 s9) 1 b0_0 then some false else g1 b0_0 b0_1 b0_2 r1 s8 (IntKind.wrap IntKind.i64 (s9 + 1))
      else none
    else none
  else some (i_IsSpiral b0_0 b0_1 b0_2)
noncomputable def i_Spiral_has_t0 (g1 : Int → Int → Int → List (Int) → Int → Int → Option (Bool)) (s0_Steps : Int) (s0_Round : Int) (s0_Rise : Int) (steps1 : List Int) : Option Bool :=
  g1 s0_Steps s0_Round s0_Rise steps1 (↑(List.length steps1) : Int) 0
theorem i_Spiral_has_ts : Tails c_i_Spiral_has.pts c_i_Spiral_has.round :=
  ⟨fun s => by
    obtain ⟨⟨⟨b0_0, b0_1, b0_2, _⟩, r1, _⟩, ⟨_, _, s8, s9, _⟩, ⟨_, _, _⟩⟩ := s
    refine Tail.eq (Y := fun g => i_Spiral_has_t1 (fun b0_0 b0_1 b0_2 r1 s8 s9 => g.1 (((b0_0, b0_1, b0_2, ()), r1, ()), ((), (), s8, s9, ()), ((), (), ()))) b0_0 b0_1 b0_2 r1 s8 s9) ?_ (fun g => by kernel_rfl)
    simp only [i_Spiral_has_t1]; repeat (first | exact Tail.const _ | exact Tail.here _ | exact Tail.there (Tail.here _) | exact Tail.there (Tail.there (Tail.here _)) | exact Tail.there (Tail.there (Tail.there (Tail.here _))) | exact Tail.there (Tail.there (Tail.there (Tail.there (Tail.here _)))) | exact Tail.there (Tail.there (Tail.there (Tail.there (Tail.there (Tail.here _))))) | apply Tail.cond | (apply Tail.bind; intro _)), trivial⟩
theorem i_Spiral_has_hs : ∀ x, Tail c_i_Spiral_has.pts (fun g => c_i_Spiral_has.start g x) := fun x => by
    obtain ⟨⟨s0_Steps, s0_Round, s0_Rise⟩, steps1, _⟩ := x
    refine Tail.eq (Y := fun g => i_Spiral_has_t0 (fun b0_0 b0_1 b0_2 r1 s8 s9 => g.1 (((b0_0, b0_1, b0_2, ()), r1, ()), ((), (), s8, s9, ()), ((), (), ()))) s0_Steps s0_Round s0_Rise steps1) ?_ (fun g => by kernel_rfl)
    simp only [i_Spiral_has_t0]; repeat (first | exact Tail.const _ | exact Tail.here _ | exact Tail.there (Tail.here _) | exact Tail.there (Tail.there (Tail.here _)) | exact Tail.there (Tail.there (Tail.there (Tail.here _))) | exact Tail.there (Tail.there (Tail.there (Tail.there (Tail.here _)))) | exact Tail.there (Tail.there (Tail.there (Tail.there (Tail.there (Tail.here _))))) | apply Tail.cond | (apply Tail.bind; intro _))
noncomputable def i_Spiral_has_L1 (b0_0 : Int) (b0_1 : Int) (b0_2 : Int) (r1 : List (Int)) (s8 : Int) (s9 : Int) : Option Bool := c_i_Spiral_has.L.1 (((b0_0, b0_1, b0_2, ()), r1, ()), ((), (), s8, s9, ()), ((), (), ()))
theorem i_Spiral_has_u1 (b0_0 : Int) (b0_1 : Int) (b0_2 : Int) (r1 : List (Int)) (s8 : Int) (s9 : Int) : i_Spiral_has_L1 b0_0 b0_1 b0_2 r1 s8 s9 = i_Spiral_has_t1 i_Spiral_has_L1 b0_0 b0_1 b0_2 r1 s8 s9 :=
  (congrArg (fun g => g.1 (((b0_0, b0_1, b0_2, ()), r1, ()), ((), (), s8, s9, ()), ((), (), ()))) (FnCx.L_eq i_Spiral_has_ts)).trans (by kernel_rfl)
noncomputable def i_Spiral_has (s0_Steps : Int) (s0_Round : Int) (s0_Rise : Int) (steps1 : List Int) : Option Bool := i_Spiral_has_t0 i_Spiral_has_L1 s0_Steps s0_Round s0_Rise steps1
theorem i_Spiral_has_e (s0_Steps : Int) (s0_Round : Int) (s0_Rise : Int) (steps1 : List Int) : c_i_Spiral_has.start c_i_Spiral_has.L ((s0_Steps, s0_Round, s0_Rise), steps1, ()) = i_Spiral_has s0_Steps s0_Round s0_Rise steps1 := by kernel_rfl
noncomputable def F_i_Spiral_has : Ins c_i_Spiral_has.ins → Option Bool := fun x => i_Spiral_has x.1.1 x.1.2.1 x.1.2.2 x.2.1
noncomputable def S_i_Spiral_has : FSpec := mkF c_i_Spiral_has.env.pre c_i_Spiral_has.ins c_i_Spiral_has.out c_i_Spiral_has.inj F_i_Spiral_has
theorem h_i_Spiral_has : Cert Tryz.prog 89 S_i_Spiral_has := FnCx.certF (c := c_i_Spiral_has) F_i_Spiral_has (tyOk _ _ _) (spOk ⟨h_i_within, fun _ _ h => h, ⟨h_i_IsSpiral, fun _ _ h => h, trivial⟩⟩) (fun _ _ _ _ _ hs => noDr_ok) Tryz.func89 rfl rfl Tryz.ntmps89 (by kernel_rfl) rfl rfl (fun _ => rfl) i_Spiral_has_ts i_Spiral_has_hs (fun x t hb ht => by
  obtain ⟨⟨s0_Steps, s0_Round, s0_Rise⟩, steps1, _⟩ := x
  exact (i_Spiral_has_e s0_Steps s0_Round s0_Rise steps1).trans ht)
/-! impl.CutSpiral -/
noncomputable def c_i_CutSpiral : FnCx := { env := env 35 [(89, S_i_Spiral_has)] [], body := bodyOf Tryz.f24, res := [.cell 4 25, .cell 5 25, .tmp 6], ins := [.ro kSpiral, .ro kint], out := [(kSpiral, true), (kSpiral, true), (kbool, true)], T := (Int × Int × Int) × (Int × Int × Int) × Bool, fin := fun r => (r.1.1, r.1.2.1, r.1.2.2.1), inj := fun t => ((t.1, t.2.1, t.2.2, ()), ((), (), ())), pts := [], fuel := 400, dr := evDr (env 35 [(89, S_i_Spiral_has)] []) }
noncomputable def i_CutSpiral (s0_Steps : Int) (s0_Round : Int) (s0_Rise : Int) (step1 : Int) : Option ((Int × Int × Int) × (Int × Int × Int) × Bool) :=
  Option.bind (i_Spiral_has s0_Steps s0_Round s0_Rise [step1]) fun r =>
    bif !r then some ((0, 0, 0), (0, 0, 0), false)
    else
      bif step1 == s0_Steps then some ((0, 0, 0), (0, 0, 0), false)
      else some ((step1, s0_Round, s0_Rise), (IntKind.wrap IntKind.i64 (s0_Steps - step1), s0_Round, s0_Rise), true)
theorem i_CutSpiral_e (s0_Steps : Int) (s0_Round : Int) (s0_Rise : Int) (step1 : Int) : c_i_CutSpiral.start c_i_CutSpiral.L ((s0_Steps, s0_Round, s0_Rise), step1, ()) = i_CutSpiral s0_Steps s0_Round s0_Rise step1 := by kernel_rfl
noncomputable def F_i_CutSpiral : Ins c_i_CutSpiral.ins → Option ((Int × Int × Int) × (Int × Int × Int) × Bool) := fun x => i_CutSpiral x.1.1 x.1.2.1 x.1.2.2 x.2.1
noncomputable def S_i_CutSpiral : FSpec := mkF c_i_CutSpiral.env.pre c_i_CutSpiral.ins c_i_CutSpiral.out c_i_CutSpiral.inj F_i_CutSpiral
theorem h_i_CutSpiral : Cert Tryz.prog 24 S_i_CutSpiral := FnCx.certF (c := c_i_CutSpiral) F_i_CutSpiral (tyOk _ _ _) (spOk ⟨h_i_Spiral_has, fun _ _ h => h, trivial⟩) (fun _ _ _ _ _ hs => evDr_ok (tyOk _ _ _) hs follows) Tryz.func24 rfl rfl Tryz.ntmps24 (by kernel_rfl) rfl rfl (fun _ => rfl) trivial (fun x => .inl ⟨c_i_CutSpiral.start () x, fun _ => rfl⟩) (fun x t hb ht => by
  obtain ⟨⟨s0_Steps, s0_Round, s0_Rise⟩, step1, _⟩ := x
  exact (i_CutSpiral_e s0_Steps s0_Round s0_Rise step1).trans ht)
/-! spec.spStep -/
noncomputable def c_s_spStep : FnCx := { env := env 13 [(81, S_s_spGood), (79, S_s_l1In)] [], body := bodyOf Tryz.f90, res := [.tmp 4], ins := [.ro kSpiral, .ro kint], out := [(kbool, true)], T := Bool, fin := fun r => r.1.1, inj := fun t => ((t, ()), ((), (), ())), pts := [], fuel := 400, dr := noDr }
noncomputable def s_spStep (s0_Steps : Int) (s0_Round : Int) (s0_Rise : Int) (step1 : Int) : Bool :=
  bif s_spGood s0_Steps s0_Round s0_Rise then s_l1In step1 1 s0_Steps else false
theorem s_spStep_e (s0_Steps : Int) (s0_Round : Int) (s0_Rise : Int) (step1 : Int) : c_s_spStep.start c_s_spStep.L ((s0_Steps, s0_Round, s0_Rise), step1, ()) = some (s_spStep s0_Steps s0_Round s0_Rise step1) := by
  refine Eq.trans (b := (bif s_spGood s0_Steps s0_Round s0_Rise then some (s_l1In step1 1 s0_Steps) else some false : Option Bool)) (by kernel_rfl) ?_
  unfold s_spStep
  repeat (first | rfl | apply condS)
noncomputable def F_s_spStep : Ins c_s_spStep.ins → Bool := fun x => s_spStep x.1.1 x.1.2.1 x.1.2.2 x.2.1
noncomputable def S_s_spStep : FSpec := mkT c_s_spStep.env.pre c_s_spStep.ins c_s_spStep.out c_s_spStep.inj F_s_spStep
theorem h_s_spStep : Cert Tryz.prog 90 S_s_spStep := FnCx.certT (c := c_s_spStep) F_s_spStep (tyOk _ _ _) (spOk ⟨h_s_spGood, fun _ _ h => h, ⟨h_s_l1In, fun _ _ h => h, trivial⟩⟩) (fun _ _ _ _ _ hs => noDr_ok) Tryz.func90 rfl rfl Tryz.ntmps90 (by kernel_rfl) rfl rfl (fun _ => rfl) trivial (fun x => .inl ⟨c_s_spStep.start () x, fun _ => rfl⟩) (fun x hb => by
  obtain ⟨⟨s0_Steps, s0_Round, s0_Rise⟩, step1, _⟩ := x
  exact s_spStep_e s0_Steps s0_Round s0_Rise step1)
/-! spec.CutSpiral -/
noncomputable def c_s_CutSpiral : FnCx := { env := env 34 [(90, S_s_spStep)] [], body := bodyOf Tryz.f25, res := [.cell 4 25, .cell 5 25, .tmp 6], ins := [.ro kSpiral, .ro kint], out := [(kSpiral, true), (kSpiral, true), (kbool, true)], T := (Int × Int × Int) × (Int × Int × Int) × Bool, fin := fun r => (r.1.1, r.1.2.1, r.1.2.2.1), inj := fun t => ((t.1, t.2.1, t.2.2, ()), ((), (), ())), pts := [], fuel := 400, dr := evDr (env 34 [(90, S_s_spStep)] []) }
noncomputable def s_CutSpiral (s0_Steps : Int) (s0_Round : Int) (s0_Rise : Int) (step1 : Int) : ((Int × Int × Int) × (Int × Int × Int) × Bool) :=
  bif !s_spStep s0_Steps s0_Round s0_Rise step1 then ((0, 0, 0), (0, 0, 0), false)
  else
    bif step1 == s0_Steps then ((0, 0, 0), (0, 0, 0), false)
    else ((step1, s0_Round, s0_Rise), (IntKind.wrap IntKind.i64 (s0_Steps - step1), s0_Round, s0_Rise), true)
theorem s_CutSpiral_e (s0_Steps : Int) (s0_Round : Int) (s0_Rise : Int) (step1 : Int) : c_s_CutSpiral.start c_s_CutSpiral.L ((s0_Steps, s0_Round, s0_Rise), step1, ()) = some (s_CutSpiral s0_Steps s0_Round s0_Rise step1) := by
  refine Eq.trans (b := (bif !s_spStep s0_Steps s0_Round s0_Rise step1 then some ((0, 0, 0), (0, 0, 0), false) else bif step1 == s0_Steps then some ((0, 0, 0), (0, 0, 0), false) else some ((step1, s0_Round, s0_Rise), (IntKind.wrap IntKind.i64 (s0_Steps - step1), s0_Round, s0_Rise), true) : Option ((Int × Int × Int) × (Int × Int × Int) × Bool))) (by kernel_rfl) ?_
  unfold s_CutSpiral
  repeat (first | rfl | apply condS)
noncomputable def F_s_CutSpiral : Ins c_s_CutSpiral.ins → ((Int × Int × Int) × (Int × Int × Int) × Bool) := fun x => s_CutSpiral x.1.1 x.1.2.1 x.1.2.2 x.2.1
noncomputable def S_s_CutSpiral : FSpec := mkT c_s_CutSpiral.env.pre c_s_CutSpiral.ins c_s_CutSpiral.out c_s_CutSpiral.inj F_s_CutSpiral
theorem h_s_CutSpiral : Cert Tryz.prog 25 S_s_CutSpiral := FnCx.certT (c := c_s_CutSpiral) F_s_CutSpiral (tyOk _ _ _) (spOk ⟨h_s_spStep, fun _ _ h => h, trivial⟩) (fun _ _ _ _ _ hs => evDr_ok (tyOk _ _ _) hs follows) Tryz.func25 rfl rfl Tryz.ntmps25 (by kernel_rfl) rfl rfl (fun _ => rfl) trivial (fun x => .inl ⟨c_s_CutSpiral.start () x, fun _ => rfl⟩) (fun x hb => by
  obtain ⟨⟨s0_Steps, s0_Round, s0_Rise⟩, step1, _⟩ := x
  exact s_CutSpiral_e s0_Steps s0_Round s0_Rise step1)
/-! impl.HeightSpiral -/
noncomputable def c_i_HeightSpiral : FnCx := { env := env 15 [(89, S_i_Spiral_has)] [], body := bodyOf Tryz.f32, res := [.tmp 4, .tmp 5], ins := [.ro kSpiral, .ro kint], out := [(kint, true), (kbool, true)], T := Int × Bool, fin := fun r => (r.1.1, r.1.2.1), inj := fun t => ((t.1, t.2, ()), ((), (), ())), pts := [], fuel := 400, dr := noDr }
noncomputable def i_HeightSpiral (s0_Steps : Int) (s0_Round : Int) (s0_Rise : Int) (step1 : Int) : Option (Int × Bool) :=
  Option.bind (i_Spiral_has s0_Steps s0_Round s0_Rise [step1]) fun r => bif !r then some (0, false) else some (IntKind.wrap IntKind.i64 (step1 * s0_Rise), true)
theorem i_HeightSpiral_e (s0_Steps : Int) (s0_Round : Int) (s0_Rise : Int) (step1 : Int) : c_i_HeightSpiral.start c_i_HeightSpiral.L ((s0_Steps, s0_Round, s0_Rise), step1, ()) = i_HeightSpiral s0_Steps s0_Round s0_Rise step1 := by kernel_rfl
noncomputable def F_i_HeightSpiral : Ins c_i_HeightSpiral.ins → Option (Int × Bool) := fun x => i_HeightSpiral x.1.1 x.1.2.1 x.1.2.2 x.2.1
noncomputable def S_i_HeightSpiral : FSpec := mkF c_i_HeightSpiral.env.pre c_i_HeightSpiral.ins c_i_HeightSpiral.out c_i_HeightSpiral.inj F_i_HeightSpiral
theorem h_i_HeightSpiral : Cert Tryz.prog 32 S_i_HeightSpiral := FnCx.certF (c := c_i_HeightSpiral) F_i_HeightSpiral (tyOk _ _ _) (spOk ⟨h_i_Spiral_has, fun _ _ h => h, trivial⟩) (fun _ _ _ _ _ hs => noDr_ok) Tryz.func32 rfl rfl Tryz.ntmps32 (by kernel_rfl) rfl rfl (fun _ => rfl) trivial (fun x => .inl ⟨c_i_HeightSpiral.start () x, fun _ => rfl⟩) (fun x t hb ht => by
  obtain ⟨⟨s0_Steps, s0_Round, s0_Rise⟩, step1, _⟩ := x
  exact (i_HeightSpiral_e s0_Steps s0_Round s0_Rise step1).trans ht)
/-! impl.part -/
noncomputable def c_i_part : FnCx := { env := env 19 [(83, S_i_gcd)] [], body := bodyOf Tryz.f98, res := [.tmp 4, .tmp 5, .tmp 6], ins := [.ro kint, .ro kint], out := [(kint, true), (kint, true), (kbool, true)], T := Int × Int × Bool, fin := fun r => (r.1.1, r.1.2.1, r.1.2.2.1), inj := fun t => ((t.1, t.2.1, t.2.2, ()), ((), (), ())), pts := [], fuel := 400, dr := evDr (env 19 [(83, S_i_gcd)] []) }
noncomputable def i_part (n0 : Int) (d1 : Int) : Option (Int × Int × Bool) :=
  bif decide (d1 ≤ 0) then some (0, 0, false)
  else
    Option.bind (i_gcd n0 d1) fun r =>
      bif r == 0 then none else bif r == 0 then none else some (IntKind.wrap IntKind.i64 (Int.tdiv n0 r), IntKind.wrap IntKind.i64 (Int.tdiv d1 r), true)
theorem i_part_e (n0 : Int) (d1 : Int) : c_i_part.start c_i_part.L (n0, d1, ()) = i_part n0 d1 := by kernel_rfl
noncomputable def F_i_part : Ins c_i_part.ins → Option (Int × Int × Bool) := fun x => i_part x.1 x.2.1
noncomputable def S_i_part : FSpec := mkF c_i_part.env.pre c_i_part.ins c_i_part.out c_i_part.inj F_i_part
theorem h_i_part : Cert Tryz.prog 98 S_i_part := FnCx.certF (c := c_i_part) F_i_part (tyOk _ _ _) (spOk ⟨h_i_gcd, fun _ _ h => h, trivial⟩) (fun _ _ _ _ _ hs => evDr_ok (tyOk _ _ _) hs follows) Tryz.func98 rfl rfl Tryz.ntmps98 (by kernel_rfl) rfl rfl (fun _ => rfl) trivial (fun x => .inl ⟨c_i_part.start () x, fun _ => rfl⟩) (fun x t hb ht => by
  obtain ⟨n0, d1, _⟩ := x
  exact (i_part_e n0 d1).trans ht)
/-! impl.AngleOf -/
noncomputable def c_i_AngleOf : FnCx := { env := env 21 [(89, S_i_Spiral_has), (87, S_i_Spiral_angle), (98, S_i_part)] [], body := bodyOf Tryz.f33, res := [.tmp 4, .tmp 5, .tmp 6], ins := [.ro kSpiral, .ro kint], out := [(kint, true), (kint, true), (kbool, true)], T := Int × Int × Bool, fin := fun r => (r.1.1, r.1.2.1, r.1.2.2.1), inj := fun t => ((t.1, t.2.1, t.2.2, ()), ((), (), ())), pts := [], fuel := 400, dr := evDr (env 21 [(89, S_i_Spiral_has), (87, S_i_Spiral_angle), (98, S_i_part)] []) }
noncomputable def i_AngleOf (s0_Steps : Int) (s0_Round : Int) (s0_Rise : Int) (step1 : Int) : Option (Int × Int × Bool) :=
  Option.bind (i_Spiral_has s0_Steps s0_Round s0_Rise [step1]) fun r =>
    bif !r then some (0, 0, false)
    else
      Option.bind (i_Spiral_angle s0_Steps s0_Round s0_Rise step1) fun r =>
        Option.bind (i_part r s0_Round) fun r => some (Prod.fst r, Prod.fst (Prod.snd r), Prod.snd (Prod.snd r))
theorem i_AngleOf_e (s0_Steps : Int) (s0_Round : Int) (s0_Rise : Int) (step1 : Int) : c_i_AngleOf.start c_i_AngleOf.L ((s0_Steps, s0_Round, s0_Rise), step1, ()) = i_AngleOf s0_Steps s0_Round s0_Rise step1 := by kernel_rfl
noncomputable def F_i_AngleOf : Ins c_i_AngleOf.ins → Option (Int × Int × Bool) := fun x => i_AngleOf x.1.1 x.1.2.1 x.1.2.2 x.2.1
noncomputable def S_i_AngleOf : FSpec := mkF c_i_AngleOf.env.pre c_i_AngleOf.ins c_i_AngleOf.out c_i_AngleOf.inj F_i_AngleOf
theorem h_i_AngleOf : Cert Tryz.prog 33 S_i_AngleOf := FnCx.certF (c := c_i_AngleOf) F_i_AngleOf (tyOk _ _ _) (spOk ⟨h_i_Spiral_has, fun _ _ h => h, ⟨h_i_Spiral_angle, fun _ _ h => h, ⟨h_i_part, fun _ _ h => h, trivial⟩⟩⟩) (fun _ _ _ _ _ hs => evDr_ok (tyOk _ _ _) hs follows) Tryz.func33 rfl rfl Tryz.ntmps33 (by kernel_rfl) rfl rfl (fun _ => rfl) trivial (fun x => .inl ⟨c_i_AngleOf.start () x, fun _ => rfl⟩) (fun x t hb ht => by
  obtain ⟨⟨s0_Steps, s0_Round, s0_Rise⟩, step1, _⟩ := x
  exact (i_AngleOf_e s0_Steps s0_Round s0_Rise step1).trans ht)
/-! strconv.Itoa -/
noncomputable def strconv_Itoa (n : Int) : Option ByteArray := itoaF n
noncomputable def F_strconv_Itoa : Ins [.ro kint] → Option ByteArray := fun x => strconv_Itoa x.1
noncomputable def S_strconv_Itoa : FSpec := mkF (T := ByteArray) textPre [.ro kint] [(.str, true)] (fun t => ((t, ()), ((), ()))) F_strconv_Itoa
theorem h_strconv_Itoa : Cert Tryz.prog 91 S_strconv_Itoa := itoa_cert litoa rfl ⟨_, Tryz.func91, rfl, by kernel_rfl⟩ (by simp [textL])
/-! impl.SpiralText -/
noncomputable def c_i_SpiralText : FnCx := { env := env 20 [(31, S_i_IsSpiral), (91, S_strconv_Itoa)] [], body := bodyOf Tryz.f26, res := [.tmp 2, .tmp 3], ins := [.ro kSpiral], out := [(kstring, true), (kbool, true)], T := ByteArray × Bool, fin := fun r => (r.1.1, r.1.2.1), inj := fun t => ((t.1, t.2, ()), ((), ())), pts := [], fuel := 400, dr := evDr (env 20 [(31, S_i_IsSpiral), (91, S_strconv_Itoa)] []) }
noncomputable def i_SpiralText (s0_Steps : Int) (s0_Round : Int) (s0_Rise : Int) : Option (ByteArray × Bool) :=
  bif !i_IsSpiral s0_Steps s0_Round s0_Rise then some ({ data := #[] }, false)
  else
    Option.bind (strconv_Itoa s0_Steps) fun r =>
      bif Nat.ble (ByteArray.size r + ByteArray.size { data := #[64] }) 9223372036854775807 then
        Option.bind (strconv_Itoa s0_Round) fun r_1 =>
          bif Nat.ble (ByteArray.size (r ++ { data := #[64] }) + ByteArray.size r_1) 9223372036854775807 then
            bif Nat.ble (ByteArray.size (r ++ { data := #[64] } ++ r_1) + ByteArray.size { data := #[42] }) 9223372036854775807 then
              Option.bind (strconv_Itoa s0_Rise) fun r_2 =>
                bif Nat.ble (ByteArray.size (r ++ { data := #[64] } ++ r_1 ++ { data := #[42] }) + ByteArray.size r_2) 9223372036854775807 then
                  some (r ++ { data := #[64] } ++ r_1 ++ { data := #[42] } ++ r_2, true)
                else none
            else none
          else none
      else none
theorem i_SpiralText_e (s0_Steps : Int) (s0_Round : Int) (s0_Rise : Int) : c_i_SpiralText.start c_i_SpiralText.L ((s0_Steps, s0_Round, s0_Rise), ()) = i_SpiralText s0_Steps s0_Round s0_Rise := by kernel_rfl
noncomputable def F_i_SpiralText : Ins c_i_SpiralText.ins → Option (ByteArray × Bool) := fun x => i_SpiralText x.1.1 x.1.2.1 x.1.2.2
noncomputable def S_i_SpiralText : FSpec := mkF c_i_SpiralText.env.pre c_i_SpiralText.ins c_i_SpiralText.out c_i_SpiralText.inj F_i_SpiralText
theorem h_i_SpiralText : Cert Tryz.prog 26 S_i_SpiralText := FnCx.certF (c := c_i_SpiralText) F_i_SpiralText (tyOk _ _ _) (spOk ⟨h_i_IsSpiral, fun _ _ h => h, ⟨h_strconv_Itoa, fun _ _ h => h, trivial⟩⟩) (fun _ _ _ _ _ hs => evDr_ok (tyOk _ _ _) hs follows) Tryz.func26 rfl rfl Tryz.ntmps26 (by kernel_rfl) rfl rfl (fun _ => rfl) trivial (fun x => .inl ⟨c_i_SpiralText.start () x, fun _ => rfl⟩) (fun x t hb ht => by
  obtain ⟨⟨s0_Steps, s0_Round, s0_Rise⟩, _⟩ := x
  exact (i_SpiralText_e s0_Steps s0_Round s0_Rise).trans ht)
/-! spec.l1Num -/
noncomputable def SR_s_l1Num (RR : Int → Option (ByteArray)) : FSpec := mkF (T := ByteArray) textPre [.ro kint] [(kstring, true)] (fun t => ((t, ()), ((), ()))) (fun x => RR x.1)
noncomputable def c_s_l1Num (RR : Int → Option (ByteArray)) : FnCx := { env := env 20 [(117, SR_s_l1Num RR)] [], body := bodyOf Tryz.f117, res := [.tmp 2], ins := [.ro kint], out := [(kstring, true)], T := ByteArray, fin := fun r => r.1.1, inj := fun t => ((t, ()), ((), ())), pts := [], fuel := 400, dr := evDr (env 20 [(117, SR_s_l1Num RR)] []) }
noncomputable def s_l1Num (RR : Int → Option (ByteArray)) (n0 : Int) : Option ByteArray :=
  bif decide (n0 < 10) then
    some (List.foldl (fun r n => ByteArray.push r (UInt8.ofNat (Int.toNat n))) ByteArray.empty [IntKind.wrap IntKind.u8 (IntKind.wrap IntKind.i64 (48 + n0))])
  else
    Option.bind (RR (IntKind.wrap IntKind.i64 (Int.tdiv n0 10))) fun r =>
      bif
          Nat.ble
            (ByteArray.size r +
              ByteArray.size
                (List.foldl (fun r n => ByteArray.push r (UInt8.ofNat (Int.toNat n))) ByteArray.empty
                  [IntKind.wrap IntKind.u8 (IntKind.wrap IntKind.i64 (48 + Int.tmod n0 10))]))
            9223372036854775807 then
        some
          (r ++
            List.foldl (fun r n => ByteArray.push r (UInt8.ofNat (Int.toNat n))) ByteArray.empty
              [IntKind.wrap IntKind.u8 (IntKind.wrap IntKind.i64 (48 + Int.tmod n0 10))])
      else none
theorem s_l1Num_e (RR : Int → Option (ByteArray)) (n0 : Int) : (c_s_l1Num RR).start (c_s_l1Num RR).L (n0, ()) = (s_l1Num RR) n0 := by kernel_rfl
noncomputable def s_l1Num_it : Nat → Int → Option (ByteArray) := fun n => Nat.rec (fun _ => none) (fun _ RR => s_l1Num RR) n
theorem s_l1Num_is (n : Nat) (n0 : Int) : s_l1Num_it (n + 1) n0 = s_l1Num (s_l1Num_it n) n0 := rfl
theorem hh_s_l1Num : ∀ n, Cert Tryz.prog 117 (SR_s_l1Num (s_l1Num_it n))
  | 0 => cert_none Tryz.func117 rfl (by kernel_rfl) rfl rfl
  | n + 1 => FnCx.certF (c := c_s_l1Num (s_l1Num_it n)) (fun x => s_l1Num_it (n + 1) x.1) (tyOk _ _ _) (spOk ⟨hh_s_l1Num n, fun _ _ h => h, trivial⟩) (fun _ _ _ _ _ hs => evDr_ok (tyOk _ _ _) hs follows) Tryz.func117 rfl rfl Tryz.ntmps117 (by kernel_rfl) rfl rfl (fun _ => rfl) trivial (fun x => .inl ⟨(c_s_l1Num (s_l1Num_it n)).start () x, fun _ => rfl⟩) (fun x t hb ht => by
    obtain ⟨n0, _⟩ := x
    exact (s_l1Num_e (s_l1Num_it n) n0).trans ht)
-- NICE rec
theorem wrapU8 {n : Int} (h1 : 0 ≤ n) (h2 : n ≤ 255) : IntKind.wrap .u8 n = n := by
  unfold IntKind.wrap
  simp [IntKind.signed, IntKind.bits]
  omega
theorem bytes_app (a b : List UInt8) : (⟨a.toArray⟩ : ByteArray) ++ ⟨b.toArray⟩ = ⟨(a ++ b).toArray⟩ := ByteArray.ext (by rw [ByteArray.data_append]; simp)
theorem dec_len : ∀ u : Nat, (Lib.decDigits u).length ≤ u + 1 := by
  intro u
  induction u using Nat.strongRecOn with
  | ind u ih =>
    rw [Lib.decDigits]
    by_cases h : u < 10
    · rw [dif_pos h]; simp
    · rw [dif_neg h]
      have := ih (u / 10) (by omega)
      rw [List.length_append, List.length_singleton]; omega
theorem itoa_nat (n : Nat) : Lib.itoa (n : Int) = Lib.decDigits n := by
  unfold Lib.itoa
  rw [if_neg (by omega), Int.toNat_natCast]
theorem digit_eq {m : Nat} (h : m < 10) : List.foldl (fun r n => ByteArray.push r (UInt8.ofNat (Int.toNat n))) ByteArray.empty [IntKind.wrap .u8 (IntKind.wrap .i64 (48 + (m : Int)))] = ⟨([UInt8.ofNat (48 + m)] : List UInt8).toArray⟩ := by
  rw [wrapI (n := 48 + (m : Int)) (by omega) (by omega), wrapU8 (by omega) (by omega), show (48 + (m : Int)) = ((48 + m : Nat) : Int) by omega]
  simp only [List.foldl_cons, List.foldl_nil, Int.toNat_natCast]
  rfl
theorem num_it : ∀ (k n : Nat), n < k → n ≤ 4000000000000000000 → s_l1Num_it k (n : Int) = some ⟨(Lib.decDigits n).toArray⟩
  | 0, n, h, _ => by omega
  | k + 1, n, h, hn => by
    rw [s_l1Num_is, s_l1Num]
    by_cases h10 : n < 10
    · rw [decide_eq_true (show (n : Int) < 10 by omega), cond_true, digit_eq h10, Lib.decDigits, dif_pos h10]
    · have hm : Int.tmod (n : Int) 10 = ((n % 10 : Nat) : Int) := by rw [Int.tmod_eq_emod_of_nonneg (by omega)]; rfl
      have hd : Int.tdiv (n : Int) 10 = ((n / 10 : Nat) : Int) := by rw [Int.tdiv_eq_ediv_of_nonneg (by omega)]; rfl
      have ih := num_it k (n / 10) (by omega) (by omega)
      have hl := dec_len (n / 10)
      rw [decide_eq_false (show ¬ (n : Int) < 10 by omega), cond_false, hd, hm, wrapI (n := ((n / 10 : Nat) : Int)) (by omega) (by omega), ih, Option.bind_some, digit_eq (Nat.mod_lt n (by omega)), ble_dec, decide_eq_true, cond_true, bytes_app, Lib.decDigits.eq_def n, dif_neg h10]
      show (Lib.decDigits (n / 10)).toArray.size + 1 ≤ _
      simp; omega
noncomputable def s_l1Num_n (n : Int) : Option ByteArray := bif decide (0 ≤ n) && decide (n ≤ 4000000000000000000) then some ⟨(Lib.itoa n).toArray⟩ else none
theorem s_l1Num_ok (n : Int) (t : ByteArray) (h : s_l1Num_n n = some t) : ∃ k, s_l1Num_it k n = some t := by
  unfold s_l1Num_n at h
  cases hc : decide (0 ≤ n) && decide (n ≤ 4000000000000000000)
  · rw [hc] at h; cases h
  · rw [hc, cond_true] at h
    cases h
    rw [Bool.and_eq_true, decide_eq_true_eq, decide_eq_true_eq] at hc
    obtain ⟨m, rfl⟩ := Int.eq_ofNat_of_zero_le hc.1
    exact ⟨m + 1, by rw [num_it (m + 1) m (by omega) (by omega), itoa_nat]⟩
noncomputable def F_s_l1Num : Ins [.ro kint] → Option ByteArray := fun x => s_l1Num_n x.1
noncomputable def S_s_l1Num : FSpec := mkF (T := ByteArray) textPre [.ro kint] [(kstring, true)] (fun t => ((t, ()), ((), ()))) F_s_l1Num
theorem h_s_l1Num : Cert Tryz.prog 117 S_s_l1Num := cert_lim hh_s_l1Num (fun x t hb ht => by
  obtain ⟨n0, _⟩ := x
  exact s_l1Num_ok n0 t ht)
/-! spec.spText -/
noncomputable def c_s_spText : FnCx := { env := env 16 [(117, S_s_l1Num)] [], body := bodyOf Tryz.f92, res := [.tmp 2], ins := [.ro kSpiral], out := [(kstring, true)], T := ByteArray, fin := fun r => r.1.1, inj := fun t => ((t, ()), ((), ())), pts := [], fuel := 400, dr := evDr (env 16 [(117, S_s_l1Num)] []) }
noncomputable def s_spText (s0_Steps : Int) (s0_Round : Int) (s0_Rise : Int) : Option ByteArray :=
  Option.bind (s_l1Num_n s0_Steps) fun r =>
    bif Nat.ble (ByteArray.size r + ByteArray.size { data := #[64] }) 9223372036854775807 then
      Option.bind (s_l1Num_n s0_Round) fun r_1 =>
        bif Nat.ble (ByteArray.size (r ++ { data := #[64] }) + ByteArray.size r_1) 9223372036854775807 then
          bif Nat.ble (ByteArray.size (r ++ { data := #[64] } ++ r_1) + ByteArray.size { data := #[42] }) 9223372036854775807 then
            Option.bind (s_l1Num_n s0_Rise) fun r_2 =>
              bif Nat.ble (ByteArray.size (r ++ { data := #[64] } ++ r_1 ++ { data := #[42] }) + ByteArray.size r_2) 9223372036854775807 then
                some (r ++ { data := #[64] } ++ r_1 ++ { data := #[42] } ++ r_2)
              else none
          else none
        else none
    else none
theorem s_spText_e (s0_Steps : Int) (s0_Round : Int) (s0_Rise : Int) : c_s_spText.start c_s_spText.L ((s0_Steps, s0_Round, s0_Rise), ()) = s_spText s0_Steps s0_Round s0_Rise := by kernel_rfl
noncomputable def F_s_spText : Ins c_s_spText.ins → Option ByteArray := fun x => s_spText x.1.1 x.1.2.1 x.1.2.2
noncomputable def S_s_spText : FSpec := mkF c_s_spText.env.pre c_s_spText.ins c_s_spText.out c_s_spText.inj F_s_spText
theorem h_s_spText : Cert Tryz.prog 92 S_s_spText := FnCx.certF (c := c_s_spText) F_s_spText (tyOk _ _ _) (spOk ⟨h_s_l1Num, fun _ _ h => h, trivial⟩) (fun _ _ _ _ _ hs => evDr_ok (tyOk _ _ _) hs follows) Tryz.func92 rfl rfl Tryz.ntmps92 (by kernel_rfl) rfl rfl (fun _ => rfl) trivial (fun x => .inl ⟨c_s_spText.start () x, fun _ => rfl⟩) (fun x t hb ht => by
  obtain ⟨⟨s0_Steps, s0_Round, s0_Rise⟩, _⟩ := x
  exact (s_spText_e s0_Steps s0_Round s0_Rise).trans ht)
/-! spec.SpiralText -/
noncomputable def c_s_SpiralText : FnCx := { env := env 9 [(81, S_s_spGood), (92, S_s_spText)] [], body := bodyOf Tryz.f27, res := [.tmp 2, .tmp 3], ins := [.ro kSpiral], out := [(kstring, true), (kbool, true)], T := ByteArray × Bool, fin := fun r => (r.1.1, r.1.2.1), inj := fun t => ((t.1, t.2, ()), ((), ())), pts := [], fuel := 400, dr := noDr }
noncomputable def s_SpiralText (s0_Steps : Int) (s0_Round : Int) (s0_Rise : Int) : Option (ByteArray × Bool) :=
  bif !s_spGood s0_Steps s0_Round s0_Rise then some ({ data := #[] }, false) else Option.bind (s_spText s0_Steps s0_Round s0_Rise) fun r => some (r, true)
theorem s_SpiralText_e (s0_Steps : Int) (s0_Round : Int) (s0_Rise : Int) : c_s_SpiralText.start c_s_SpiralText.L ((s0_Steps, s0_Round, s0_Rise), ()) = s_SpiralText s0_Steps s0_Round s0_Rise := by kernel_rfl
noncomputable def F_s_SpiralText : Ins c_s_SpiralText.ins → Option (ByteArray × Bool) := fun x => s_SpiralText x.1.1 x.1.2.1 x.1.2.2
noncomputable def S_s_SpiralText : FSpec := mkF c_s_SpiralText.env.pre c_s_SpiralText.ins c_s_SpiralText.out c_s_SpiralText.inj F_s_SpiralText
theorem h_s_SpiralText : Cert Tryz.prog 27 S_s_SpiralText := FnCx.certF (c := c_s_SpiralText) F_s_SpiralText (tyOk _ _ _) (spOk ⟨h_s_spGood, fun _ _ h => h, ⟨h_s_spText, fun _ _ h => h, trivial⟩⟩) (fun _ _ _ _ _ hs => noDr_ok) Tryz.func27 rfl rfl Tryz.ntmps27 (by kernel_rfl) rfl rfl (fun _ => rfl) trivial (fun x => .inl ⟨c_s_SpiralText.start () x, fun _ => rfl⟩) (fun x t hb ht => by
  obtain ⟨⟨s0_Steps, s0_Round, s0_Rise⟩, _⟩ := x
  exact (s_SpiralText_e s0_Steps s0_Round s0_Rise).trans ht)
/-! strings.Cut -/
noncomputable def strings_Cut (s sep : ByteArray) : Option (ByteArray × ByteArray × Bool) := cutF s sep
noncomputable def F_strings_Cut : Ins [.ro kstring, .ro kstring] → Option (ByteArray × ByteArray × Bool) := fun x => strings_Cut x.1 x.2.1
noncomputable def S_strings_Cut : FSpec := mkF (T := ByteArray × ByteArray × Bool) textPre [.ro kstring, .ro kstring] [(.str, true), (.str, true), (.bool, true)] (fun t => ((t.1, t.2.1, t.2.2, ()), ((), (), ()))) F_strings_Cut
theorem h_strings_Cut : Cert Tryz.prog 95 S_strings_Cut := cut_cert (show Lays.n145 Tryz.prog lcut_ren from { lcut with }) rfl ⟨_, Tryz.func95, rfl, by kernel_rfl⟩ (by simp [textL]) (by kernel_rfl)
/-! strconv.Atoi -/
noncomputable def strconv_Atoi (s : ByteArray) : Option (Int × Bool) := atoiF s
noncomputable def F_strconv_Atoi : Ins [.ro kstring] → Option (Int × Bool) := fun x => strconv_Atoi x.1
noncomputable def S_strconv_Atoi : FSpec := mkF (T := Int × Bool) textPre [.ro kstring] [(.int .i64, true), (.err, true)] (fun t => ((t.1, t.2, ()), ((), ()))) F_strconv_Atoi
theorem h_strconv_Atoi : Cert Tryz.prog 119 S_strconv_Atoi := atoi_cert rfl latoi rfl ⟨_, Tryz.func119, rfl, by kernel_rfl⟩ (by simp [textL]) (by kernel_rfl) (by simp [textL]) (by kernel_rfl)
/-! impl.num -/
noncomputable def c_i_num : FnCx := { env := env 27 [(119, S_strconv_Atoi), (91, S_strconv_Itoa)] [], body := bodyOf Tryz.f96, res := [.tmp 2], ins := [.ro kstring], out := [(kint, true)], T := Int, fin := fun r => r.1.1, inj := fun t => ((t, ()), ((), ())), pts := [], fuel := 400, dr := noDr }
noncomputable def i_num (s0 : ByteArray) : Option Int :=
  Option.bind (strconv_Atoi s0) fun r =>
    bif !Prod.snd r then some (-1)
    else
      bif decide (Prod.fst r < 0) then some (-1)
      else
        bif decide (Prod.fst r > 999999) then some (-1)
        else Option.bind (strconv_Itoa (Prod.fst r)) fun r_1 => bif !ByteArray.toList r_1 == ByteArray.toList s0 then some (-1) else some (Prod.fst r)
theorem i_num_e (s0 : ByteArray) : c_i_num.start c_i_num.L (s0, ()) = i_num s0 := by kernel_rfl
noncomputable def F_i_num : Ins c_i_num.ins → Option Int := fun x => i_num x.1
noncomputable def S_i_num : FSpec := mkF c_i_num.env.pre c_i_num.ins c_i_num.out c_i_num.inj F_i_num
theorem h_i_num : Cert Tryz.prog 96 S_i_num := FnCx.certF (c := c_i_num) F_i_num (tyOk _ _ _) (spOk ⟨h_strconv_Atoi, fun _ _ h => h, ⟨h_strconv_Itoa, fun _ _ h => h, trivial⟩⟩) (fun _ _ _ _ _ hs => noDr_ok) Tryz.func96 rfl rfl Tryz.ntmps96 (by kernel_rfl) rfl rfl (fun _ => rfl) trivial (fun x => .inl ⟨c_i_num.start () x, fun _ => rfl⟩) (fun x t hb ht => by
  obtain ⟨s0, _⟩ := x
  exact (i_num_e s0).trans ht)
/-! impl.ParseSpiral -/
noncomputable def c_i_ParseSpiral : FnCx := { env := env 35 [(95, S_strings_Cut), (96, S_i_num), (31, S_i_IsSpiral)] [], body := bodyOf Tryz.f29, res := [.cell 2 25, .tmp 3], ins := [.ro kstring], out := [(kSpiral, true), (kbool, true)], T := (Int × Int × Int) × Bool, fin := fun r => (r.1.1, r.1.2.1), inj := fun t => ((t.1, t.2, ()), ((), ())), pts := [], fuel := 400, dr := noDr }
noncomputable def i_ParseSpiral (t0 : ByteArray) : Option ((Int × Int × Int) × Bool) :=
  Option.bind (strings_Cut t0 { data := #[64] }) fun r =>
    Option.bind (strings_Cut (Prod.fst (Prod.snd r)) { data := #[42] }) fun r_1 =>
      Option.bind (i_num (Prod.fst r)) fun r =>
        Option.bind (i_num (Prod.fst r_1)) fun r_2 =>
          Option.bind (i_num (Prod.fst (Prod.snd r_1))) fun r_3 => bif !i_IsSpiral r r_2 r_3 then some ((0, 0, 0), false) else some ((r, r_2, r_3), true)
theorem i_ParseSpiral_e (t0 : ByteArray) : c_i_ParseSpiral.start c_i_ParseSpiral.L (t0, ()) = i_ParseSpiral t0 := by kernel_rfl
noncomputable def F_i_ParseSpiral : Ins c_i_ParseSpiral.ins → Option ((Int × Int × Int) × Bool) := fun x => i_ParseSpiral x.1
noncomputable def S_i_ParseSpiral : FSpec := mkF c_i_ParseSpiral.env.pre c_i_ParseSpiral.ins c_i_ParseSpiral.out c_i_ParseSpiral.inj F_i_ParseSpiral
theorem h_i_ParseSpiral : Cert Tryz.prog 29 S_i_ParseSpiral := FnCx.certF (c := c_i_ParseSpiral) F_i_ParseSpiral (tyOk _ _ _) (spOk ⟨h_strings_Cut, fun _ _ h => h, ⟨h_i_num, fun _ _ h => h, ⟨h_i_IsSpiral, fun _ _ h => h, trivial⟩⟩⟩) (fun _ _ _ _ _ hs => noDr_ok) Tryz.func29 rfl rfl Tryz.ntmps29 (by kernel_rfl) rfl rfl (fun _ => rfl) trivial (fun x => .inl ⟨c_i_ParseSpiral.start () x, fun _ => rfl⟩) (fun x t hb ht => by
  obtain ⟨t0, _⟩ := x
  exact (i_ParseSpiral_e t0).trans ht)
/-! spec.l1Split -/
noncomputable def c_s_l1Split : FnCx := { env := env 34 [] [], body := bodyOf Tryz.f120, res := [.tmp 4], ins := [.ro kstring, .ro kuint8], out := [(kSstring, true)], T := List ByteArray, fin := fun r => r.1.1, inj := fun t => ((t, ()), ((), (), ())), pts := [([.inLoop [1, 1, 1, 0, 1, 0, 0], .inBlock 0, .code [1, 1, 1, 1]], Shape.mk [Bs.row kstring 9 true] [(0, Ss.one (Cs.sc kstring)), (1, Ss.one (Cs.sc kuint8)), (5, Ss.one (Cs.sl 0)), (6, Ss.one (Cs.sc kint)), (7, Ss.one (Cs.sc kint))] [Ss.one (Cs.any), Ss.one (Cs.any)])], fuel := 400, dr := noDr }
noncomputable def s_l1Split_t1 (g1 : List (ByteArray) → ByteArray → Int → Int → Int → Option (List ByteArray)) (r0 : List (ByteArray)) (s0 : ByteArray) (b1 : Int) (from6 : Int) (i7 : Int) : Option (List ByteArray) :=
  bif decide (i7 < (↑(ByteArray.size s0) : Int)) then
    bif decide (0 ≤ i7) then
      bif decide (i7 < (↑(ByteArray.size s0) : Int)) then
        bif bt s0 i7 == b1 then
          bif decide (0 ≤ i7) then
            bif decide (i7 ≤ (↑(ByteArray.size s0) : Int)) then
              bif decide (0 ≤ from6) then
                bif decide (from6 ≤ i7) then
                  bif Nat.ble (List.length r0 + 1) 4294967296 then
                    g1 (r0 ++ [ByteArray.extract s0 (Int.toNat from6) (Int.toNat i7)]) s0 b1 (IntKind.wrap IntKind.i64 (i7 + 1))
                      (IntKind.wrap IntKind.i64 (i7 + 1))
                  else none
                else none
              else none
            else none
          else none
        else g1 r0 s0 b1 from6 (IntKind.wrap IntKind.i64 (i7 + 1))
      else none
    else none
  else
    bif decide (0 ≤ from6) then
      bif decide (from6 ≤ (↑(ByteArray.size s0) : Int)) then
        bif Nat.ble (List.length r0 + 1) 4294967296 then some (r0 ++ [ByteArray.extract s0 (Int.toNat from6) (Int.toNat (↑(ByteArray.size s0) : Int))]) else none
      else none
    else none
noncomputable def s_l1Split_t0 (g1 : List (ByteArray) → ByteArray → Int → Int → Int → Option (List ByteArray)) (s0 : ByteArray) (b1 : Int) : Option (List ByteArray) :=
  g1 [] s0 b1 0 0
theorem s_l1Split_ts : Tails c_s_l1Split.pts c_s_l1Split.round :=
  ⟨fun s => by
    obtain ⟨⟨r0, _⟩, ⟨s0, b1, _, from6, i7, _⟩, ⟨_, _, _⟩⟩ := s
    refine Tail.eq (Y := fun g => s_l1Split_t1 (fun r0 s0 b1 from6 i7 => g.1 ((r0, ()), (s0, b1, (), from6, i7, ()), ((), (), ()))) r0 s0 b1 from6 i7) ?_ (fun g => by kernel_rfl)
    simp only [s_l1Split_t1]; repeat (first | apply Tail.cond | (apply Tail.bind; intro _) | exact Tail.here _ | exact Tail.there (Tail.here _) | exact Tail.there (Tail.there (Tail.here _)) | exact Tail.there (Tail.there (Tail.there (Tail.here _))) | exact Tail.there (Tail.there (Tail.there (Tail.there (Tail.here _)))) | exact Tail.there (Tail.there (Tail.there (Tail.there (Tail.there (Tail.here _))))) | exact Tail.const _), trivial⟩
theorem s_l1Split_hs : ∀ x, Tail c_s_l1Split.pts (fun g => c_s_l1Split.start g x) := fun x => by
    obtain ⟨s0, b1, _⟩ := x
    refine Tail.eq (Y := fun g => s_l1Split_t0 (fun r0 s0 b1 from6 i7 => g.1 ((r0, ()), (s0, b1, (), from6, i7, ()), ((), (), ()))) s0 b1) ?_ (fun g => by kernel_rfl)
    simp only [s_l1Split_t0]; repeat (first | apply Tail.cond | (apply Tail.bind; intro _) | exact Tail.here _ | exact Tail.there (Tail.here _) | exact Tail.there (Tail.there (Tail.here _)) | exact Tail.there (Tail.there (Tail.there (Tail.here _))) | exact Tail.there (Tail.there (Tail.there (Tail.there (Tail.here _)))) | exact Tail.there (Tail.there (Tail.there (Tail.there (Tail.there (Tail.here _))))) | exact Tail.const _)
noncomputable def s_l1Split_L1 (r0 : List (ByteArray)) (s0 : ByteArray) (b1 : Int) (from6 : Int) (i7 : Int) : Option (List ByteArray) := c_s_l1Split.L.1 ((r0, ()), (s0, b1, (), from6, i7, ()), ((), (), ()))
theorem s_l1Split_u1 (r0 : List (ByteArray)) (s0 : ByteArray) (b1 : Int) (from6 : Int) (i7 : Int) : s_l1Split_L1 r0 s0 b1 from6 i7 = s_l1Split_t1 s_l1Split_L1 r0 s0 b1 from6 i7 :=
  (congrArg (fun g => g.1 ((r0, ()), (s0, b1, (), from6, i7, ()), ((), (), ()))) (FnCx.L_eq s_l1Split_ts)).trans (by kernel_rfl)
noncomputable def s_l1Split (s0 : ByteArray) (b1 : Int) : Option (List ByteArray) := s_l1Split_t0 s_l1Split_L1 s0 b1
theorem s_l1Split_e (s0 : ByteArray) (b1 : Int) : c_s_l1Split.start c_s_l1Split.L (s0, b1, ()) = s_l1Split s0 b1 := by kernel_rfl
noncomputable def F_s_l1Split : Ins c_s_l1Split.ins → Option (List ByteArray) := fun x => s_l1Split x.1 x.2.1
noncomputable def S_s_l1Split : FSpec := mkF c_s_l1Split.env.pre c_s_l1Split.ins c_s_l1Split.out c_s_l1Split.inj F_s_l1Split
theorem h_s_l1Split : Cert Tryz.prog 120 S_s_l1Split := FnCx.certF (c := c_s_l1Split) F_s_l1Split (tyOk _ _ _) (spOk trivial) (fun _ _ _ _ _ hs => noDr_ok) Tryz.func120 rfl rfl Tryz.ntmps120 (by kernel_rfl) rfl rfl (fun _ => rfl) s_l1Split_ts s_l1Split_hs (fun x t hb ht => by
  obtain ⟨s0, b1, _⟩ := x
  exact (s_l1Split_e s0 b1).trans ht)
/-! spec.l1Read -/
noncomputable def c_s_l1Read : FnCx := { env := env 44 [(79, S_s_l1In)] [], body := bodyOf Tryz.f121, res := [.tmp 2], ins := [.ro kstring], out := [(kint, true)], T := Int, fin := fun r => r.1.1, inj := fun t => ((t, ()), ((), ())), pts := [([.inLoop [1, 1, 1, 0, 1, 0, 0], .inBlock 0, .code [1, 1, 1, 1]], Shape.mk [] [(0, Ss.one (Cs.sc kstring)), (3, Ss.one (Cs.sc kint)), (4, Ss.one (Cs.sc kint))] [Ss.one (Cs.any)])], fuel := 400, dr := noDr }
noncomputable def s_l1Read_t1 (g1 : ByteArray → Int → Int → Option (Int)) (s0 : ByteArray) (n3 : Int) (i4 : Int) : Option Int :=
  bif decide (i4 < (↑(ByteArray.size s0) : Int)) then
    bif decide (0 ≤ i4) then
      bif decide (i4 < (↑(ByteArray.size s0) : Int)) then
        bif decide (bt s0 i4 < 48) then some (-1)
        else
          bif decide (0 ≤ i4) then
            bif decide (i4 < (↑(ByteArray.size s0) : Int)) then
              bif decide (bt s0 i4 > 57) then some (-1)
              else
                bif decide (0 ≤ i4) then
                  bif decide (i4 < (↑(ByteArray.size s0) : Int)) then
                    g1 s0 (IntKind.wrap IntKind.i64 (IntKind.wrap IntKind.i64 (10 * n3) + IntKind.wrap IntKind.i64 (IntKind.wrap IntKind.u8 (bt s0 i4 - 48))))
                      (IntKind.wrap IntKind.i64 (i4 + 1))
                  else none
                else none
            else none
          else none
      else none
    else none
  else some n3
noncomputable def s_l1Read_t0 (g1 : ByteArray → Int → Int → Option (Int)) (s0 : ByteArray) : Option Int :=
  bif !s_l1In (↑(ByteArray.size s0) : Int) 1 6 then some (-1)
  else
    bif decide (0 < (↑(ByteArray.size s0) : Int)) then
      bif bt s0 0 == 48 then bif decide ((↑(ByteArray.size s0) : Int) > 1) then some (-1) else g1 s0 0 0 else g1 s0 0 0
    else none
theorem s_l1Read_ts : Tails c_s_l1Read.pts c_s_l1Read.round :=
  ⟨fun s => by
    obtain ⟨_, ⟨s0, n3, i4, _⟩, ⟨_, _⟩⟩ := s
    refine Tail.eq (Y := fun g => s_l1Read_t1 (fun s0 n3 i4 => g.1 ((), (s0, n3, i4, ()), ((), ()))) s0 n3 i4) ?_ (fun g => by kernel_rfl)
    simp only [s_l1Read_t1]; repeat (first | apply Tail.cond | (apply Tail.bind; intro _) | exact Tail.here _ | exact Tail.there (Tail.here _) | exact Tail.there (Tail.there (Tail.here _)) | exact Tail.there (Tail.there (Tail.there (Tail.here _))) | exact Tail.there (Tail.there (Tail.there (Tail.there (Tail.here _)))) | exact Tail.there (Tail.there (Tail.there (Tail.there (Tail.there (Tail.here _))))) | exact Tail.const _), trivial⟩
theorem s_l1Read_hs : ∀ x, Tail c_s_l1Read.pts (fun g => c_s_l1Read.start g x) := fun x => by
    obtain ⟨s0, _⟩ := x
    refine Tail.eq (Y := fun g => s_l1Read_t0 (fun s0 n3 i4 => g.1 ((), (s0, n3, i4, ()), ((), ()))) s0) ?_ (fun g => by kernel_rfl)
    simp only [s_l1Read_t0]; repeat (first | apply Tail.cond | (apply Tail.bind; intro _) | exact Tail.here _ | exact Tail.there (Tail.here _) | exact Tail.there (Tail.there (Tail.here _)) | exact Tail.there (Tail.there (Tail.there (Tail.here _))) | exact Tail.there (Tail.there (Tail.there (Tail.there (Tail.here _)))) | exact Tail.there (Tail.there (Tail.there (Tail.there (Tail.there (Tail.here _))))) | exact Tail.const _)
noncomputable def s_l1Read_L1 (s0 : ByteArray) (n3 : Int) (i4 : Int) : Option Int := c_s_l1Read.L.1 ((), (s0, n3, i4, ()), ((), ()))
theorem s_l1Read_u1 (s0 : ByteArray) (n3 : Int) (i4 : Int) : s_l1Read_L1 s0 n3 i4 = s_l1Read_t1 s_l1Read_L1 s0 n3 i4 :=
  (congrArg (fun g => g.1 ((), (s0, n3, i4, ()), ((), ()))) (FnCx.L_eq s_l1Read_ts)).trans (by kernel_rfl)
noncomputable def s_l1Read (s0 : ByteArray) : Option Int := s_l1Read_t0 s_l1Read_L1 s0
theorem s_l1Read_e (s0 : ByteArray) : c_s_l1Read.start c_s_l1Read.L (s0, ()) = s_l1Read s0 := by kernel_rfl
noncomputable def F_s_l1Read : Ins c_s_l1Read.ins → Option Int := fun x => s_l1Read x.1
noncomputable def S_s_l1Read : FSpec := mkF c_s_l1Read.env.pre c_s_l1Read.ins c_s_l1Read.out c_s_l1Read.inj F_s_l1Read
theorem h_s_l1Read : Cert Tryz.prog 121 S_s_l1Read := FnCx.certF (c := c_s_l1Read) F_s_l1Read (tyOk _ _ _) (spOk ⟨h_s_l1In, fun _ _ h => h, trivial⟩) (fun _ _ _ _ _ hs => noDr_ok) Tryz.func121 rfl rfl Tryz.ntmps121 (by kernel_rfl) rfl rfl (fun _ => rfl) s_l1Read_ts s_l1Read_hs (fun x t hb ht => by
  obtain ⟨s0, _⟩ := x
  exact (s_l1Read_e s0).trans ht)
/-! spec.spParse -/
noncomputable def c_s_spParse : FnCx := { env := env 48 [(120, S_s_l1Split), (121, S_s_l1Read), (81, S_s_spGood), (92, S_s_spText)] [], body := bodyOf Tryz.f97, res := [.cell 2 25, .tmp 3], ins := [.ro kstring], out := [(kSpiral, true), (kbool, true)], T := (Int × Int × Int) × Bool, fin := fun r => (r.1.1, r.1.2.1), inj := fun t => ((t.1, t.2, ()), ((), ())), pts := [], fuel := 400, dr := evDr (env 48 [(120, S_s_l1Split), (121, S_s_l1Read), (81, S_s_spGood), (92, S_s_spText)] []) }
noncomputable def s_spParse (t0 : ByteArray) : Option ((Int × Int × Int) × Bool) :=
  Option.bind (s_l1Split t0 64) fun r =>
    bif decide ((↑(ByteArray.size t0) : Int) > 10) then some ((0, 0, 0), false)
    else
      bif (↑(List.length r) : Int) != 2 then some ((0, 0, 0), false)
      else
        bif decide (1 < (↑(List.length r) : Int)) then
          Option.bind (s_l1Split (rdk kstring r 1) 42) fun r_1 =>
            bif (↑(List.length r_1) : Int) != 2 then some ((0, 0, 0), false)
            else
              bif decide (0 < (↑(List.length r) : Int)) then
                Option.bind (s_l1Read (rdk kstring r 0)) fun r =>
                  bif decide (0 < (↑(List.length r_1) : Int)) then
                    Option.bind (s_l1Read (rdk kstring r_1 0)) fun r_2 =>
                      bif decide (1 < (↑(List.length r_1) : Int)) then
                        Option.bind (s_l1Read (rdk kstring r_1 1)) fun r_3 =>
                          bif s_spGood r r_2 r_3 then
                            Option.bind (s_spText r r_2 r_3) fun r_4 => some ((r, r_2, r_3), ByteArray.toList r_4 == ByteArray.toList t0)
                          else some ((r, r_2, r_3), false)
                      else none
                  else none
              else none
        else none
theorem s_spParse_e (t0 : ByteArray) : c_s_spParse.start c_s_spParse.L (t0, ()) = s_spParse t0 := by kernel_rfl
noncomputable def F_s_spParse : Ins c_s_spParse.ins → Option ((Int × Int × Int) × Bool) := fun x => s_spParse x.1
noncomputable def S_s_spParse : FSpec := mkF c_s_spParse.env.pre c_s_spParse.ins c_s_spParse.out c_s_spParse.inj F_s_spParse
theorem h_s_spParse : Cert Tryz.prog 97 S_s_spParse := FnCx.certF (c := c_s_spParse) F_s_spParse (tyOk _ _ _) (spOk ⟨h_s_l1Split, fun _ _ h => h, ⟨h_s_l1Read, fun _ _ h => h, ⟨h_s_spGood, fun _ _ h => h, ⟨h_s_spText, fun _ _ h => h, trivial⟩⟩⟩⟩) (fun _ _ _ _ _ hs => evDr_ok (tyOk _ _ _) hs follows) Tryz.func97 rfl rfl Tryz.ntmps97 (by kernel_rfl) rfl rfl (fun _ => rfl) trivial (fun x => .inl ⟨c_s_spParse.start () x, fun _ => rfl⟩) (fun x t hb ht => by
  obtain ⟨t0, _⟩ := x
  exact (s_spParse_e t0).trans ht)
/-! spec.ParseSpiral -/
noncomputable def c_s_ParseSpiral : FnCx := { env := env 15 [(97, S_s_spParse)] [], body := bodyOf Tryz.f30, res := [.cell 2 25, .tmp 3], ins := [.ro kstring], out := [(kSpiral, true), (kbool, true)], T := (Int × Int × Int) × Bool, fin := fun r => (r.1.1, r.1.2.1), inj := fun t => ((t.1, t.2, ()), ((), ())), pts := [], fuel := 400, dr := noDr }
noncomputable def s_ParseSpiral (t0 : ByteArray) : Option ((Int × Int × Int) × Bool) :=
  Option.bind (s_spParse t0) fun r =>
    bif !Prod.snd r then some ((0, 0, 0), false) else some ((Prod.fst (Prod.fst r), Prod.fst (Prod.snd (Prod.fst r)), Prod.snd (Prod.snd (Prod.fst r))), true)
theorem s_ParseSpiral_e (t0 : ByteArray) : c_s_ParseSpiral.start c_s_ParseSpiral.L (t0, ()) = s_ParseSpiral t0 := by kernel_rfl
noncomputable def F_s_ParseSpiral : Ins c_s_ParseSpiral.ins → Option ((Int × Int × Int) × Bool) := fun x => s_ParseSpiral x.1
noncomputable def S_s_ParseSpiral : FSpec := mkF c_s_ParseSpiral.env.pre c_s_ParseSpiral.ins c_s_ParseSpiral.out c_s_ParseSpiral.inj F_s_ParseSpiral
theorem h_s_ParseSpiral : Cert Tryz.prog 30 S_s_ParseSpiral := FnCx.certF (c := c_s_ParseSpiral) F_s_ParseSpiral (tyOk _ _ _) (spOk ⟨h_s_spParse, fun _ _ h => h, trivial⟩) (fun _ _ _ _ _ hs => noDr_ok) Tryz.func30 rfl rfl Tryz.ntmps30 (by kernel_rfl) rfl rfl (fun _ => rfl) trivial (fun x => .inl ⟨c_s_ParseSpiral.start () x, fun _ => rfl⟩) (fun x t hb ht => by
  obtain ⟨t0, _⟩ := x
  exact (s_ParseSpiral_e t0).trans ht)
/-! laws.wSame -/
noncomputable def c_w_wSame : FnCx := { env := env 26 [] [], body := bodyOf Tryz.f11, res := [.tmp 4], ins := [.ro kSint, .ro kSint], out := [(kbool, true)], T := Bool, fin := fun r => r.1.1, inj := fun t => ((t, ()), ((), (), ())), pts := [([.inLoop [1, 1, 0, 1, 0, 0], .inBlock 0, .code [1, 1, 1]], Shape.mk [Bs.row kint 3 false, Bs.row kint 3 false] [(0, Ss.one (Cs.sl 0)), (1, Ss.one (Cs.sl 1)), (12, Ss.one (Cs.sc kint)), (13, Ss.one (Cs.sc kint))] [Ss.one (Cs.any), Ss.one (Cs.any)])], fuel := 400, dr := evDr (env 26 [] []) }
noncomputable def w_wSame_t1 (g1 : List (Int) → List (Int) → Int → Int → Option (Bool)) (r0 : List (Int)) (r1 : List (Int)) (s12 : Int) (s13 : Int) : Option Bool :=
  bif decide (s13 < s12) then
    bif decide (0 ≤ s13) then
      bif decide (s13 < (↑(List.length r0) : Int)) then
        bif decide (0 ≤ s13) then
          bif decide (s13 < (↑(List.length r1) : Int)) then
            bif rdk kint r0 s13 != rdk kint r1 s13 then some false else g1 r0 r1 s12 (IntKind.wrap IntKind.i64 (s13 + 1))
          else none
        else none
      else none
    else none
  else some true
noncomputable def w_wSame_t0 (g1 : List (Int) → List (Int) → Int → Int → Option (Bool)) (a0 : List Int) (b1 : List Int) : Option Bool :=
  bif (↑(List.length a0) : Int) != (↑(List.length b1) : Int) then some false else g1 a0 b1 (↑(List.length a0) : Int) 0
theorem w_wSame_ts : Tails c_w_wSame.pts c_w_wSame.round :=
  ⟨fun s => by
    obtain ⟨⟨r0, r1, _⟩, ⟨_, _, s12, s13, _⟩, ⟨_, _, _⟩⟩ := s
    refine Tail.eq (Y := fun g => w_wSame_t1 (fun r0 r1 s12 s13 => g.1 ((r0, r1, ()), ((), (), s12, s13, ()), ((), (), ()))) r0 r1 s12 s13) ?_ (fun g => by kernel_rfl)
    simp only [w_wSame_t1]; repeat (first | exact Tail.const _ | exact Tail.here _ | exact Tail.there (Tail.here _) | exact Tail.there (Tail.there (Tail.here _)) | exact Tail.there (Tail.there (Tail.there (Tail.here _))) | exact Tail.there (Tail.there (Tail.there (Tail.there (Tail.here _)))) | exact Tail.there (Tail.there (Tail.there (Tail.there (Tail.there (Tail.here _))))) | apply Tail.cond | (apply Tail.bind; intro _)), trivial⟩
theorem w_wSame_hs : ∀ x, Tail c_w_wSame.pts (fun g => c_w_wSame.start g x) := fun x => by
    obtain ⟨a0, b1, _⟩ := x
    refine Tail.eq (Y := fun g => w_wSame_t0 (fun r0 r1 s12 s13 => g.1 ((r0, r1, ()), ((), (), s12, s13, ()), ((), (), ()))) a0 b1) ?_ (fun g => by kernel_rfl)
    simp only [w_wSame_t0]; repeat (first | exact Tail.const _ | exact Tail.here _ | exact Tail.there (Tail.here _) | exact Tail.there (Tail.there (Tail.here _)) | exact Tail.there (Tail.there (Tail.there (Tail.here _))) | exact Tail.there (Tail.there (Tail.there (Tail.there (Tail.here _)))) | exact Tail.there (Tail.there (Tail.there (Tail.there (Tail.there (Tail.here _))))) | apply Tail.cond | (apply Tail.bind; intro _))
noncomputable def w_wSame_L1 (r0 : List (Int)) (r1 : List (Int)) (s12 : Int) (s13 : Int) : Option Bool := c_w_wSame.L.1 ((r0, r1, ()), ((), (), s12, s13, ()), ((), (), ()))
theorem w_wSame_u1 (r0 : List (Int)) (r1 : List (Int)) (s12 : Int) (s13 : Int) : w_wSame_L1 r0 r1 s12 s13 = w_wSame_t1 w_wSame_L1 r0 r1 s12 s13 :=
  (congrArg (fun g => g.1 ((r0, r1, ()), ((), (), s12, s13, ()), ((), (), ()))) (FnCx.L_eq w_wSame_ts)).trans (by kernel_rfl)
noncomputable def w_wSame (a0 : List Int) (b1 : List Int) : Option Bool := w_wSame_t0 w_wSame_L1 a0 b1
theorem w_wSame_e (a0 : List Int) (b1 : List Int) : c_w_wSame.start c_w_wSame.L (a0, b1, ()) = w_wSame a0 b1 := by kernel_rfl
noncomputable def F_w_wSame : Ins c_w_wSame.ins → Option Bool := fun x => w_wSame x.1 x.2.1
noncomputable def S_w_wSame : FSpec := mkF c_w_wSame.env.pre c_w_wSame.ins c_w_wSame.out c_w_wSame.inj F_w_wSame
theorem h_w_wSame : Cert Tryz.prog 11 S_w_wSame := FnCx.certF (c := c_w_wSame) F_w_wSame (tyOk _ _ _) (spOk trivial) (fun _ _ _ _ _ hs => evDr_ok (tyOk _ _ _) hs follows) Tryz.func11 rfl rfl Tryz.ntmps11 (by kernel_rfl) rfl rfl (fun _ => rfl) w_wSame_ts w_wSame_hs (fun x t hb ht => by
  obtain ⟨a0, b1, _⟩ := x
  exact (w_wSame_e a0 b1).trans ht)
/-! laws.wRises -/
noncomputable def c_w_wRises : FnCx := { env := env 20 [] [], body := bodyOf Tryz.f12, res := [.tmp 2], ins := [.ro kSint], out := [(kbool, true)], T := Bool, fin := fun r => r.1.1, inj := fun t => ((t, ()), ((), ())), pts := [([.inLoop [1, 0, 1, 0, 0], .inBlock 0, .code [1, 1]], Shape.mk [Bs.row kint 3 false] [(0, Ss.one (Cs.sl 0)), (3, Ss.one (Cs.sc kint))] [Ss.one (Cs.any)])], fuel := 400, dr := evDr (env 20 [] []) }
noncomputable def w_wRises_t1 (g1 : List (Int) → Int → Option (Bool)) (r0 : List (Int)) (i3 : Int) : Option Bool :=
  bif decide (i3 < (↑(List.length r0) : Int)) then
    bif decide (0 ≤ IntKind.wrap IntKind.i64 (i3 - 1)) then
      bif decide (IntKind.wrap IntKind.i64 (i3 - 1) < (↑(List.length r0) : Int)) then
        bif decide (0 ≤ i3) then
          bif decide (i3 < (↑(List.length r0) : Int)) then
            bif decide (rdk kint r0 (IntKind.wrap IntKind.i64 (i3 - 1)) ≥ rdk kint r0 i3) then some false
            else g1 r0 (IntKind.wrap IntKind.i64 (i3 + 1))
          else none
        else none
      else none
    else none
  else some true
noncomputable def w_wRises_t0 (g1 : List (Int) → Int → Option (Bool)) (a0 : List Int) : Option Bool :=
  g1 a0 1
theorem w_wRises_ts : Tails c_w_wRises.pts c_w_wRises.round :=
  ⟨fun s => by
    obtain ⟨⟨r0, _⟩, ⟨_, i3, _⟩, ⟨_, _⟩⟩ := s
    refine Tail.eq (Y := fun g => w_wRises_t1 (fun r0 i3 => g.1 ((r0, ()), ((), i3, ()), ((), ()))) r0 i3) ?_ (fun g => by kernel_rfl)
    simp only [w_wRises_t1]; repeat (first | exact Tail.const _ | exact Tail.here _ | exact Tail.there (Tail.here _) | exact Tail.there (Tail.there (Tail.here _)) | exact Tail.there (Tail.there (Tail.there (Tail.here _))) | exact Tail.there (Tail.there (Tail.there (Tail.there (Tail.here _)))) | exact Tail.there (Tail.there (Tail.there (Tail.there (Tail.there (Tail.here _))))) | apply Tail.cond | (apply Tail.bind; intro _)), trivial⟩
theorem w_wRises_hs : ∀ x, Tail c_w_wRises.pts (fun g => c_w_wRises.start g x) := fun x => by
    obtain ⟨a0, _⟩ := x
    refine Tail.eq (Y := fun g => w_wRises_t0 (fun r0 i3 => g.1 ((r0, ()), ((), i3, ()), ((), ()))) a0) ?_ (fun g => by kernel_rfl)
    simp only [w_wRises_t0]; repeat (first | exact Tail.const _ | exact Tail.here _ | exact Tail.there (Tail.here _) | exact Tail.there (Tail.there (Tail.here _)) | exact Tail.there (Tail.there (Tail.there (Tail.here _))) | exact Tail.there (Tail.there (Tail.there (Tail.there (Tail.here _)))) | exact Tail.there (Tail.there (Tail.there (Tail.there (Tail.there (Tail.here _))))) | apply Tail.cond | (apply Tail.bind; intro _))
noncomputable def w_wRises_L1 (r0 : List (Int)) (i3 : Int) : Option Bool := c_w_wRises.L.1 ((r0, ()), ((), i3, ()), ((), ()))
theorem w_wRises_u1 (r0 : List (Int)) (i3 : Int) : w_wRises_L1 r0 i3 = w_wRises_t1 w_wRises_L1 r0 i3 :=
  (congrArg (fun g => g.1 ((r0, ()), ((), i3, ()), ((), ()))) (FnCx.L_eq w_wRises_ts)).trans (by kernel_rfl)
noncomputable def w_wRises (a0 : List Int) : Option Bool := w_wRises_t0 w_wRises_L1 a0
theorem w_wRises_e (a0 : List Int) : c_w_wRises.start c_w_wRises.L (a0, ()) = w_wRises a0 := by kernel_rfl
noncomputable def F_w_wRises : Ins c_w_wRises.ins → Option Bool := fun x => w_wRises x.1
noncomputable def S_w_wRises : FSpec := mkF c_w_wRises.env.pre c_w_wRises.ins c_w_wRises.out c_w_wRises.inj F_w_wRises
theorem h_w_wRises : Cert Tryz.prog 12 S_w_wRises := FnCx.certF (c := c_w_wRises) F_w_wRises (tyOk _ _ _) (spOk trivial) (fun _ _ _ _ _ hs => evDr_ok (tyOk _ _ _) hs follows) Tryz.func12 rfl rfl Tryz.ntmps12 (by kernel_rfl) rfl rfl (fun _ => rfl) w_wRises_ts w_wRises_hs (fun x t hb ht => by
  obtain ⟨a0, _⟩ := x
  exact (w_wRises_e a0).trans ht)
/-! laws.wHas -/
noncomputable def c_w_wHas : FnCx := { env := env 17 [] [], body := bodyOf Tryz.f13, res := [.tmp 4], ins := [.ro kSint, .ro kint], out := [(kbool, true)], T := Bool, fin := fun r => r.1.1, inj := fun t => ((t, ()), ((), (), ())), pts := [([.inLoop [1, 0, 1, 0, 0], .inBlock 0, .code [1, 1]], Shape.mk [Bs.row kint 3 false] [(1, Ss.one (Cs.sc kint)), (7, Ss.one (Cs.sl 0)), (8, Ss.one (Cs.sc kint)), (9, Ss.one (Cs.sc kint))] [Ss.one (Cs.any), Ss.one (Cs.any)])], fuel := 400, dr := noDr }
noncomputable def w_wHas_t1 (g1 : List (Int) → Int → Int → Int → Option (Bool)) (r0 : List (Int)) (n1 : Int) (s8 : Int) (s9 : Int) : Option Bool :=
  bif decide (s9 < s8) then
    bif decide (0 ≤ s9) then
      bif decide (s9 < (↑(List.length r0) : Int)) then
        bif rdk kint r0 s9 == n1 then some true else g1 r0 n1 s8 (IntKind.wrap IntKind.i64 (s9 + 1))
      else none
    else none
  else some false
noncomputable def w_wHas_t0 (g1 : List (Int) → Int → Int → Int → Option (Bool)) (a0 : List Int) (n1 : Int) : Option Bool :=
  g1 a0 n1 (↑(List.length a0) : Int) 0
theorem w_wHas_ts : Tails c_w_wHas.pts c_w_wHas.round :=
  ⟨fun s => by
    obtain ⟨⟨r0, _⟩, ⟨n1, _, s8, s9, _⟩, ⟨_, _, _⟩⟩ := s
    refine Tail.eq (Y := fun g => w_wHas_t1 (fun r0 n1 s8 s9 => g.1 ((r0, ()), (n1, (), s8, s9, ()), ((), (), ()))) r0 n1 s8 s9) ?_ (fun g => by kernel_rfl)
    simp only [w_wHas_t1]; repeat (first | exact Tail.const _ | exact Tail.here _ | exact Tail.there (Tail.here _) | exact Tail.there (Tail.there (Tail.here _)) | exact Tail.there (Tail.there (Tail.there (Tail.here _))) | exact Tail.there (Tail.there (Tail.there (Tail.there (Tail.here _)))) | exact Tail.there (Tail.there (Tail.there (Tail.there (Tail.there (Tail.here _))))) | apply Tail.cond | (apply Tail.bind; intro _)), trivial⟩
theorem w_wHas_hs : ∀ x, Tail c_w_wHas.pts (fun g => c_w_wHas.start g x) := fun x => by
    obtain ⟨a0, n1, _⟩ := x
    refine Tail.eq (Y := fun g => w_wHas_t0 (fun r0 n1 s8 s9 => g.1 ((r0, ()), (n1, (), s8, s9, ()), ((), (), ()))) a0 n1) ?_ (fun g => by kernel_rfl)
    simp only [w_wHas_t0]; repeat (first | exact Tail.const _ | exact Tail.here _ | exact Tail.there (Tail.here _) | exact Tail.there (Tail.there (Tail.here _)) | exact Tail.there (Tail.there (Tail.there (Tail.here _))) | exact Tail.there (Tail.there (Tail.there (Tail.there (Tail.here _)))) | exact Tail.there (Tail.there (Tail.there (Tail.there (Tail.there (Tail.here _))))) | apply Tail.cond | (apply Tail.bind; intro _))
noncomputable def w_wHas_L1 (r0 : List (Int)) (n1 : Int) (s8 : Int) (s9 : Int) : Option Bool := c_w_wHas.L.1 ((r0, ()), (n1, (), s8, s9, ()), ((), (), ()))
theorem w_wHas_u1 (r0 : List (Int)) (n1 : Int) (s8 : Int) (s9 : Int) : w_wHas_L1 r0 n1 s8 s9 = w_wHas_t1 w_wHas_L1 r0 n1 s8 s9 :=
  (congrArg (fun g => g.1 ((r0, ()), (n1, (), s8, s9, ()), ((), (), ()))) (FnCx.L_eq w_wHas_ts)).trans (by kernel_rfl)
noncomputable def w_wHas (a0 : List Int) (n1 : Int) : Option Bool := w_wHas_t0 w_wHas_L1 a0 n1
theorem w_wHas_e (a0 : List Int) (n1 : Int) : c_w_wHas.start c_w_wHas.L (a0, n1, ()) = w_wHas a0 n1 := by kernel_rfl
noncomputable def F_w_wHas : Ins c_w_wHas.ins → Option Bool := fun x => w_wHas x.1 x.2.1
noncomputable def S_w_wHas : FSpec := mkF c_w_wHas.env.pre c_w_wHas.ins c_w_wHas.out c_w_wHas.inj F_w_wHas
theorem h_w_wHas : Cert Tryz.prog 13 S_w_wHas := FnCx.certF (c := c_w_wHas) F_w_wHas (tyOk _ _ _) (spOk trivial) (fun _ _ _ _ _ hs => noDr_ok) Tryz.func13 rfl rfl Tryz.ntmps13 (by kernel_rfl) rfl rfl (fun _ => rfl) w_wHas_ts w_wHas_hs (fun x t hb ht => by
  obtain ⟨a0, n1, _⟩ := x
  exact (w_wHas_e a0 n1).trans ht)
end Go.Proofs.YtddlajhpdbjapaaGreatDoor.V
