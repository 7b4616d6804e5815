/- Functions of the program, as plain functions. No condition. -/
import Derived.Test.YtddiigejhjfhdaaGreatDoorM1
set_option linter.unusedVariables false
set_option linter.unusedSimpArgs false
set_option maxRecDepth 100000
namespace Go.Proofs.YtddiigejhjfhdaaGreatDoor.V
open Go Go.Ev Go.Proofs
/-! spec.AreRolls -/
noncomputable def c_s_AreRolls : FnCx := { env := env 5 [(55, S_s_cpRolls)] [], body := bodyOf Tryz.f17, res := [.tmp 2], ins := [.ro kSint], out := [(kbool, true)], T := Bool, fin := fun r => r.1.1, inj := fun t => ((t, ()), ((), ())), pts := [], fuel := 400, dr := noDr }
noncomputable def s_AreRolls (rolls0 : List Int) : Bool :=
  s_cpRolls rolls0
theorem s_AreRolls_e (rolls0 : List Int) : c_s_AreRolls.start c_s_AreRolls.L (rolls0, ()) = some (s_AreRolls rolls0) := by kernel_rfl
noncomputable def F_s_AreRolls : Ins c_s_AreRolls.ins → Bool := fun x => s_AreRolls x.1
noncomputable def S_s_AreRolls : FSpec := mkT c_s_AreRolls.env.pre c_s_AreRolls.ins c_s_AreRolls.out c_s_AreRolls.inj F_s_AreRolls
theorem h_s_AreRolls : Cert Tryz.prog 17 S_s_AreRolls := FnCx.certT (c := c_s_AreRolls) F_s_AreRolls (tyOk _ _ _) (spOk ⟨h_s_cpRolls, fun _ _ h => h, trivial⟩) (fun _ _ _ _ _ hs => noDr_ok) Tryz.func17 rfl rfl Tryz.ntmps17 (by kernel_rfl) rfl rfl (fun _ => rfl) trivial (fun x => .inl ⟨c_s_AreRolls.start () x, fun _ => rfl⟩) (fun x hb => by
  obtain ⟨rolls0, _⟩ := x
  exact s_AreRolls_e rolls0)
/-! impl.covers -/
noncomputable def c_i_covers : FnCx := { env := env 21 [] [], body := bodyOf Tryz.f50, res := [.tmp 4], ins := [.ro kSint, .ro kint], out := [(kint, true)], T := Int, fin := fun r => r.1.1, inj := fun t => ((t, ()), ((), (), ())), pts := [([.inLoop [1, 1, 0, 1, 0, 0], .inBlock 0, .code [1, 1, 1]], Shape.mk [Bs.row kint 3 false] [(1, Ss.one (Cs.sc kint)), (5, Ss.one (Cs.sc kint)), (8, Ss.one (Cs.sl 0)), (9, Ss.one (Cs.sc kint)), (10, Ss.one (Cs.sc kint))] [Ss.one (Cs.any), Ss.one (Cs.any)])], fuel := 400, dr := noDr }
noncomputable def i_covers_t1 (g1 : List (Int) → Int → Int → Int → Int → Option (Int)) (r0 : List (Int)) (need1 : Int) (n5 : Int) (s9 : Int) (s10 : Int) : Option Int :=
  bif decide (s10 < s9) then
    bif decide (0 ≤ s10) then
      bif decide (s10 < (↑(List.length r0) : Int)) then
        bif need1 == 0 then none
        else
          g1 r0 need1 (IntKind.wrap IntKind.i64 (n5 + IntKind.wrap IntKind.i64 (Int.tdiv (rdk kint r0 s10) need1))) s9
            (IntKind.wrap IntKind.i64 (s10 + 1))
      else none
    else none
  else some n5
noncomputable def i_covers_t0 (g1 : List (Int) → Int → Int → Int → Int → Option (Int)) (rolls0 : List Int) (need1 : Int) : Option Int :=
  g1 rolls0 need1 0 (↑(List.length rolls0) : Int) 0
theorem i_covers_ts : Tails c_i_covers.pts c_i_covers.round :=
  ⟨fun s => by
    obtain ⟨⟨r0, _⟩, ⟨need1, n5, _, s9, s10, _⟩, ⟨_, _, _⟩⟩ := s
    refine Tail.eq (Y := fun g => i_covers_t1 (fun r0 need1 n5 s9 s10 => g.1 ((r0, ()), (need1, n5, (), s9, s10, ()), ((), (), ()))) r0 need1 n5 s9 s10) ?_ (fun g => by kernel_rfl)
    simp only [i_covers_t1]; repeat (first | exact Tail.const _ | exact Tail.here _ | exact Tail.there (Tail.here _) | exact Tail.there (Tail.there (Tail.here _)) | exact Tail.there (Tail.there (Tail.there (Tail.here _))) | exact Tail.there (Tail.there (Tail.there (Tail.there (Tail.here _)))) | exact Tail.there (Tail.there (Tail.there (Tail.there (Tail.there (Tail.here _))))) | apply Tail.cond | (apply Tail.bind; intro _)), trivial⟩
theorem i_covers_hs : ∀ x, Tail c_i_covers.pts (fun g => c_i_covers.start g x) := fun x => by
    obtain ⟨rolls0, need1, _⟩ := x
    refine Tail.eq (Y := fun g => i_covers_t0 (fun r0 need1 n5 s9 s10 => g.1 ((r0, ()), (need1, n5, (), s9, s10, ()), ((), (), ()))) rolls0 need1) ?_ (fun g => by kernel_rfl)
    simp only [i_covers_t0]; repeat (first | exact Tail.const _ | exact Tail.here _ | exact Tail.there (Tail.here _) | exact Tail.there (Tail.there (Tail.here _)) | exact Tail.there (Tail.there (Tail.there (Tail.here _))) | exact Tail.there (Tail.there (Tail.there (Tail.there (Tail.here _)))) | exact Tail.there (Tail.there (Tail.there (Tail.there (Tail.there (Tail.here _))))) | apply Tail.cond | (apply Tail.bind; intro _))
noncomputable def i_covers_L1 (r0 : List (Int)) (need1 : Int) (n5 : Int) (s9 : Int) (s10 : Int) : Option Int := c_i_covers.L.1 ((r0, ()), (need1, n5, (), s9, s10, ()), ((), (), ()))
theorem i_covers_u1 (r0 : List (Int)) (need1 : Int) (n5 : Int) (s9 : Int) (s10 : Int) : i_covers_L1 r0 need1 n5 s9 s10 = i_covers_t1 i_covers_L1 r0 need1 n5 s9 s10 :=
  (congrArg (fun g => g.1 ((r0, ()), (need1, n5, (), s9, s10, ()), ((), (), ()))) (FnCx.L_eq i_covers_ts)).trans (by kernel_rfl)
noncomputable def i_covers (rolls0 : List Int) (need1 : Int) : Option Int := i_covers_t0 i_covers_L1 rolls0 need1
theorem i_covers_e (rolls0 : List Int) (need1 : Int) : c_i_covers.start c_i_covers.L (rolls0, need1, ()) = i_covers rolls0 need1 := by kernel_rfl
noncomputable def F_i_covers : Ins c_i_covers.ins → Option Int := fun x => i_covers x.1 x.2.1
noncomputable def S_i_covers : FSpec := mkF c_i_covers.env.pre c_i_covers.ins c_i_covers.out c_i_covers.inj F_i_covers
theorem h_i_covers : Cert Tryz.prog 50 S_i_covers := FnCx.certF (c := c_i_covers) F_i_covers (tyOk _ _ _) (spOk trivial) (fun _ _ _ _ _ hs => noDr_ok) Tryz.func50 rfl rfl Tryz.ntmps50 (by kernel_rfl) rfl rfl (fun _ => rfl) i_covers_ts i_covers_hs (fun x t hb ht => by
  obtain ⟨rolls0, need1, _⟩ := x
  exact (i_covers_e rolls0 need1).trans ht)
/-! impl.CoverPlan -/
noncomputable def c_i_CoverPlan : FnCx := { env := env 55 [(16, S_i_AreRolls), (48, S_i_isCover), (49, S_i_isNeed), (50, S_i_covers)] [], body := bodyOf Tryz.f13, res := [.tmp 6, .tmp 7], ins := [.ro kSint, .ro kint, .ro kint], out := [(kSint, true), (kbool, true)], T := List Int × Bool, fin := fun r => (r.1.1, r.1.2.1), inj := fun t => ((t.1, t.2, ()), ((), (), (), ())), pts := [([.inLoop [1, 1, 1, 0, 1, 0, 0], .inBlock 0, .code [1, 1, 1, 1]], Shape.mk [Bs.row kint 3 true, Bs.row kint 3 false] [(1, Ss.one (Cs.sc kint)), (2, Ss.one (Cs.sc kint)), (8, Ss.one (Cs.sl 0)), (32, Ss.one (Cs.sl 1)), (33, Ss.one (Cs.sc kint)), (34, Ss.one (Cs.sc kint))] [Ss.one (Cs.any), Ss.one (Cs.any), Ss.one (Cs.any)]), ([.inLoop [1, 1, 1, 0, 1, 0, 0, 1, 1, 0, 0, 1, 1, 0, 0], .inBlock 2, .inBlock 1, .code [1, 1, 1, 0, 1, 0, 0, 1, 1, 1], .inLoop [1, 1, 1, 0, 1, 0, 0], .inBlock 0, .code [1, 1, 1, 1]], Shape.mk [Bs.row kint 3 true, Bs.row kint 3 false] [(1, Ss.one (Cs.sc kint)), (2, Ss.one (Cs.sc kint)), (8, Ss.one (Cs.sl 0)), (9, Ss.one (Cs.sc kint)), (32, Ss.one (Cs.sl 1)), (33, Ss.one (Cs.sc kint)), (34, Ss.one (Cs.sc kint)), (41, Ss.one (Cs.sc kint)), (42, Ss.one (Cs.sc kint))] [Ss.one (Cs.any), Ss.one (Cs.any), Ss.one (Cs.any)])], fuel := 400, dr := noDr }
noncomputable def i_CoverPlan_t1 (g1 : List (Int) → List (Int) → Int → Int → Int → Int → Option (List Int × Bool)) (g2 : List (Int) → List (Int) → Int → Int → Int → Int → Int → Int → Int → Option (List Int × Bool)) (r0 : List (Int)) (r1 : List (Int)) (steps1 : Int) (need2 : Int) (s33 : Int) (s34 : Int) : Option (List Int × Bool) :=
  bif decide (s34 < s33) then
    bif decide (0 ≤ s34) then
      bif decide (s34 < (↑(List.length r1) : Int)) then
        bif need2 == 0 then none else g2 r0 r1 steps1 need2 s34 s33 s34 (IntKind.wrap IntKind.i64 (Int.tdiv (rdk kint r1 s34) need2)) 0
      else none
    else none
  else some (r0, true)
noncomputable def i_CoverPlan_t2 (g1 : List (Int) → List (Int) → Int → Int → Int → Int → Option (List Int × Bool)) (g2 : List (Int) → List (Int) → Int → Int → Int → Int → Int → Int → Int → Option (List Int × Bool)) (r0 : List (Int)) (r1 : List (Int)) (steps1 : Int) (need2 : Int) (k9 : Int) (s33 : Int) (s34 : Int) (s41 : Int) (s42 : Int) : Option (List Int × Bool) :=
  bif decide (s42 < s41) then
    bif decide ((↑(List.length r0) : Int) < steps1) then
      bif Nat.ble (List.length r0 + 1) 4294967296 then g2 (r0 ++ [k9]) r1 steps1 need2 k9 s33 s34 s41 (IntKind.wrap IntKind.i64 (s42 + 1)) else none
    else g2 r0 r1 steps1 need2 k9 s33 s34 s41 (IntKind.wrap IntKind.i64 (s42 + 1))
  else g1 r0 r1 steps1 need2 s33 (IntKind.wrap IntKind.i64 (s34 + 1))
noncomputable def i_CoverPlan_t0 (g1 : List (Int) → List (Int) → Int → Int → Int → Int → Option (List Int × Bool)) (g2 : List (Int) → List (Int) → Int → Int → Int → Int → Int → Int → Int → Option (List Int × Bool)) (rolls0 : List Int) (steps1 : Int) (need2 : Int) : Option (List Int × Bool) :=
  bif !i_AreRolls rolls0 then some ([], false)
  else
    bif !i_isCover steps1 then some ([], false)
    else
      bif !i_isNeed need2 then some ([], false)
      else
        Option.bind (i_covers rolls0 need2) fun r => bif decide (r < steps1) then some ([], false) else g1 [] rolls0 steps1 need2 (↑(List.length rolls0) : Int) 0
theorem i_CoverPlan_ts : Tails c_i_CoverPlan.pts c_i_CoverPlan.round :=
  ⟨fun s => by
    obtain ⟨⟨r0, r1, _⟩, ⟨steps1, need2, _, _, s33, s34, _⟩, ⟨_, _, _, _⟩⟩ := s
    refine Tail.eq (Y := fun g => i_CoverPlan_t1 (fun r0 r1 steps1 need2 s33 s34 => g.1 ((r0, r1, ()), (steps1, need2, (), (), s33, s34, ()), ((), (), (), ()))) (fun r0 r1 steps1 need2 k9 s33 s34 s41 s42 => g.2.1 ((r0, r1, ()), (steps1, need2, (), k9, (), s33, s34, s41, s42, ()), ((), (), (), ()))) r0 r1 steps1 need2 s33 s34) ?_ (fun g => by kernel_rfl)
    simp only [i_CoverPlan_t1]; repeat (first | exact Tail.const _ | exact Tail.here _ | exact Tail.there (Tail.here _) | exact Tail.there (Tail.there (Tail.here _)) | exact Tail.there (Tail.there (Tail.there (Tail.here _))) | exact Tail.there (Tail.there (Tail.there (Tail.there (Tail.here _)))) | exact Tail.there (Tail.there (Tail.there (Tail.there (Tail.there (Tail.here _))))) | apply Tail.cond | (apply Tail.bind; intro _)),
  fun s => by
    obtain ⟨⟨r0, r1, _⟩, ⟨steps1, need2, _, k9, _, s33, s34, s41, s42, _⟩, ⟨_, _, _, _⟩⟩ := s
    refine Tail.eq (Y := fun g => i_CoverPlan_t2 (fun r0 r1 steps1 need2 s33 s34 => g.1 ((r0, r1, ()), (steps1, need2, (), (), s33, s34, ()), ((), (), (), ()))) (fun r0 r1 steps1 need2 k9 s33 s34 s41 s42 => g.2.1 ((r0, r1, ()), (steps1, need2, (), k9, (), s33, s34, s41, s42, ()), ((), (), (), ()))) r0 r1 steps1 need2 k9 s33 s34 s41 s42) ?_ (fun g => by kernel_rfl)
    simp only [i_CoverPlan_t2]; repeat (first | exact Tail.const _ | exact Tail.here _ | exact Tail.there (Tail.here _) | exact Tail.there (Tail.there (Tail.here _)) | exact Tail.there (Tail.there (Tail.there (Tail.here _))) | exact Tail.there (Tail.there (Tail.there (Tail.there (Tail.here _)))) | exact Tail.there (Tail.there (Tail.there (Tail.there (Tail.there (Tail.here _))))) | apply Tail.cond | (apply Tail.bind; intro _)), trivial⟩
theorem i_CoverPlan_hs : ∀ x, Tail c_i_CoverPlan.pts (fun g => c_i_CoverPlan.start g x) := fun x => by
    obtain ⟨rolls0, steps1, need2, _⟩ := x
    refine Tail.eq (Y := fun g => i_CoverPlan_t0 (fun r0 r1 steps1 need2 s33 s34 => g.1 ((r0, r1, ()), (steps1, need2, (), (), s33, s34, ()), ((), (), (), ()))) (fun r0 r1 steps1 need2 k9 s33 s34 s41 s42 => g.2.1 ((r0, r1, ()), (steps1, need2, (), k9, (), s33, s34, s41, s42, ()), ((), (), (), ()))) rolls0 steps1 need2) ?_ (fun g => by kernel_rfl)
    simp only [i_CoverPlan_t0]; repeat (first | exact Tail.const _ | exact Tail.here _ | exact Tail.there (Tail.here _) | exact Tail.there (Tail.there (Tail.here _)) | exact Tail.there (Tail.there (Tail.there (Tail.here _))) | exact Tail.there (Tail.there (Tail.there (Tail.there (Tail.here _)))) | exact Tail.there (Tail.there (Tail.there (Tail.there (Tail.there (Tail.here _))))) | apply Tail.cond | (apply Tail.bind; intro _))
noncomputable def i_CoverPlan_L1 (r0 : List (Int)) (r1 : List (Int)) (steps1 : Int) (need2 : Int) (s33 : Int) (s34 : Int) : Option (List Int × Bool) := c_i_CoverPlan.L.1 ((r0, r1, ()), (steps1, need2, (), (), s33, s34, ()), ((), (), (), ()))
noncomputable def i_CoverPlan_L2 (r0 : List (Int)) (r1 : List (Int)) (steps1 : Int) (need2 : Int) (k9 : Int) (s33 : Int) (s34 : Int) (s41 : Int) (s42 : Int) : Option (List Int × Bool) := c_i_CoverPlan.L.2.1 ((r0, r1, ()), (steps1, need2, (), k9, (), s33, s34, s41, s42, ()), ((), (), (), ()))
theorem i_CoverPlan_u1 (r0 : List (Int)) (r1 : List (Int)) (steps1 : Int) (need2 : Int) (s33 : Int) (s34 : Int) : i_CoverPlan_L1 r0 r1 steps1 need2 s33 s34 = i_CoverPlan_t1 i_CoverPlan_L1 i_CoverPlan_L2 r0 r1 steps1 need2 s33 s34 :=
  (congrArg (fun g => g.1 ((r0, r1, ()), (steps1, need2, (), (), s33, s34, ()), ((), (), (), ()))) (FnCx.L_eq i_CoverPlan_ts)).trans (by kernel_rfl)
theorem i_CoverPlan_u2 (r0 : List (Int)) (r1 : List (Int)) (steps1 : Int) (need2 : Int) (k9 : Int) (s33 : Int) (s34 : Int) (s41 : Int) (s42 : Int) : i_CoverPlan_L2 r0 r1 steps1 need2 k9 s33 s34 s41 s42 = i_CoverPlan_t2 i_CoverPlan_L1 i_CoverPlan_L2 r0 r1 steps1 need2 k9 s33 s34 s41 s42 :=
  (congrArg (fun g => g.2.1 ((r0, r1, ()), (steps1, need2, (), k9, (), s33, s34, s41, s42, ()), ((), (), (), ()))) (FnCx.L_eq i_CoverPlan_ts)).trans (by kernel_rfl)
noncomputable def i_CoverPlan (rolls0 : List Int) (steps1 : Int) (need2 : Int) : Option (List Int × Bool) := i_CoverPlan_t0 i_CoverPlan_L1 i_CoverPlan_L2 rolls0 steps1 need2
theorem i_CoverPlan_e (rolls0 : List Int) (steps1 : Int) (need2 : Int) : c_i_CoverPlan.start c_i_CoverPlan.L (rolls0, steps1, need2, ()) = i_CoverPlan rolls0 steps1 need2 := by kernel_rfl
noncomputable def F_i_CoverPlan : Ins c_i_CoverPlan.ins → Option (List Int × Bool) := fun x => i_CoverPlan x.1 x.2.1 x.2.2.1
noncomputable def S_i_CoverPlan : FSpec := mkF c_i_CoverPlan.env.pre c_i_CoverPlan.ins c_i_CoverPlan.out c_i_CoverPlan.inj F_i_CoverPlan
theorem h_i_CoverPlan : Cert Tryz.prog 13 S_i_CoverPlan := FnCx.certF (c := c_i_CoverPlan) F_i_CoverPlan (tyOk _ _ _) (spOk ⟨h_i_AreRolls, fun _ _ h => h, ⟨h_i_isCover, fun _ _ h => h, ⟨h_i_isNeed, fun _ _ h => h, ⟨h_i_covers, fun _ _ h => h, trivial⟩⟩⟩⟩) (fun _ _ _ _ _ hs => noDr_ok) Tryz.func13 rfl rfl Tryz.ntmps13 (by kernel_rfl) rfl rfl (fun _ => rfl) i_CoverPlan_ts i_CoverPlan_hs (fun x t hb ht => by
  obtain ⟨rolls0, steps1, need2, _⟩ := x
  exact (i_CoverPlan_e rolls0 steps1 need2).trans ht)
/-! spec.CoverPlan -/
noncomputable def c_s_CoverPlan : FnCx := { env := env 43 [(45, S_s_cpAll)] [], body := bodyOf Tryz.f14, res := [.tmp 6, .tmp 7], ins := [.ro kSint, .ro kint, .ro kint], out := [(kSint, true), (kbool, true)], T := List Int × Bool, fin := fun r => (r.1.1, r.1.2.1), inj := fun t => ((t.1, t.2, ()), ((), (), (), ())), pts := [([.inLoop [1, 1, 1, 0, 1, 0, 0], .inBlock 0, .code [1, 1, 1, 1]], Shape.mk [Bs.row kint 3 true, Bs.row kint 3 false] [(1, Ss.one (Cs.sc kint)), (2, Ss.one (Cs.sc kint)), (8, Ss.one (Cs.sl 0)), (17, Ss.one (Cs.sl 1)), (18, Ss.one (Cs.sc kint)), (19, Ss.one (Cs.sc kint))] [Ss.one (Cs.any), Ss.one (Cs.any), Ss.one (Cs.any)]), ([.inLoop [1, 1, 1, 0, 1, 0, 0, 1, 1, 0, 0, 1, 1, 0, 0], .inBlock 2, .inBlock 1, .code [1, 1, 1, 0, 1, 0, 0, 1, 1, 1], .inLoop [1, 1, 1, 0, 1, 0, 0], .inBlock 0, .code [1, 1, 1, 1]], Shape.mk [Bs.row kint 3 true, Bs.row kint 3 false] [(1, Ss.one (Cs.sc kint)), (2, Ss.one (Cs.sc kint)), (8, Ss.one (Cs.sl 0)), (9, Ss.one (Cs.sc kint)), (11, Ss.one (Cs.sc kint)), (17, Ss.one (Cs.sl 1)), (18, Ss.one (Cs.sc kint)), (19, Ss.one (Cs.sc kint))] [Ss.one (Cs.any), Ss.one (Cs.any), Ss.one (Cs.any)])], fuel := 400, dr := noDr }
noncomputable def s_CoverPlan_t1 (g1 : List (Int) → List (Int) → Int → Int → Int → Int → Option (List Int × Bool)) (g2 : List (Int) → List (Int) → Int → Int → Int → Int → Int → Int → Option (List Int × Bool)) (r0 : List (Int)) (r1 : List (Int)) (steps1 : Int) (need2 : Int) (s18 : Int) (s19 : Int) : Option (List Int × Bool) :=
  bif decide (s19 < s18) then
    bif decide (0 ≤ s19) then
      bif decide (s19 < (↑(List.length r1) : Int)) then
        bif need2 == 0 then none else g2 r0 r1 steps1 need2 s19 (IntKind.wrap IntKind.i64 (Int.tdiv (rdk kint r1 s19) need2)) s18 s19
      else none
    else none
  else some (r0, true)
noncomputable def s_CoverPlan_t2 (g1 : List (Int) → List (Int) → Int → Int → Int → Int → Option (List Int × Bool)) (g2 : List (Int) → List (Int) → Int → Int → Int → Int → Int → Int → Option (List Int × Bool)) (r0 : List (Int)) (r1 : List (Int)) (steps1 : Int) (need2 : Int) (k9 : Int) (i11 : Int) (s18 : Int) (s19 : Int) : Option (List Int × Bool) :=
  bif decide (i11 > 0) then
    bif decide ((↑(List.length r0) : Int) < steps1) then
      bif Nat.ble (List.length r0 + 1) 4294967296 then g2 (r0 ++ [k9]) r1 steps1 need2 k9 (IntKind.wrap IntKind.i64 (i11 - 1)) s18 s19 else none
    else g1 r0 r1 steps1 need2 s18 (IntKind.wrap IntKind.i64 (s19 + 1))
  else g1 r0 r1 steps1 need2 s18 (IntKind.wrap IntKind.i64 (s19 + 1))
noncomputable def s_CoverPlan_t0 (g1 : List (Int) → List (Int) → Int → Int → Int → Int → Option (List Int × Bool)) (g2 : List (Int) → List (Int) → Int → Int → Int → Int → Int → Int → Option (List Int × Bool)) (rolls0 : List Int) (steps1 : Int) (need2 : Int) : Option (List Int × Bool) :=
  Option.bind (s_cpAll rolls0 steps1 need2) fun r => bif !r then some ([], false) else g1 [] rolls0 steps1 need2 (↑(List.length rolls0) : Int) 0
theorem s_CoverPlan_ts : Tails c_s_CoverPlan.pts c_s_CoverPlan.round :=
  ⟨fun s => by
    obtain ⟨⟨r0, r1, _⟩, ⟨steps1, need2, _, _, s18, s19, _⟩, ⟨_, _, _, _⟩⟩ := s
    refine Tail.eq (Y := fun g => s_CoverPlan_t1 (fun r0 r1 steps1 need2 s18 s19 => g.1 ((r0, r1, ()), (steps1, need2, (), (), s18, s19, ()), ((), (), (), ()))) (fun r0 r1 steps1 need2 k9 i11 s18 s19 => g.2.1 ((r0, r1, ()), (steps1, need2, (), k9, i11, (), s18, s19, ()), ((), (), (), ()))) r0 r1 steps1 need2 s18 s19) ?_ (fun g => by kernel_rfl)
    simp only [s_CoverPlan_t1]; repeat (first | exact Tail.const _ | exact Tail.here _ | exact Tail.there (Tail.here _) | exact Tail.there (Tail.there (Tail.here _)) | exact Tail.there (Tail.there (Tail.there (Tail.here _))) | exact Tail.there (Tail.there (Tail.there (Tail.there (Tail.here _)))) | exact Tail.there (Tail.there (Tail.there (Tail.there (Tail.there (Tail.here _))))) | apply Tail.cond | (apply Tail.bind; intro _)),
  fun s => by
    obtain ⟨⟨r0, r1, _⟩, ⟨steps1, need2, _, k9, i11, _, s18, s19, _⟩, ⟨_, _, _, _⟩⟩ := s
    refine Tail.eq (Y := fun g => s_CoverPlan_t2 (fun r0 r1 steps1 need2 s18 s19 => g.1 ((r0, r1, ()), (steps1, need2, (), (), s18, s19, ()), ((), (), (), ()))) (fun r0 r1 steps1 need2 k9 i11 s18 s19 => g.2.1 ((r0, r1, ()), (steps1, need2, (), k9, i11, (), s18, s19, ()), ((), (), (), ()))) r0 r1 steps1 need2 k9 i11 s18 s19) ?_ (fun g => by kernel_rfl)
    simp only [s_CoverPlan_t2]; repeat (first | exact Tail.const _ | exact Tail.here _ | exact Tail.there (Tail.here _) | exact Tail.there (Tail.there (Tail.here _)) | exact Tail.there (Tail.there (Tail.there (Tail.here _))) | exact Tail.there (Tail.there (Tail.there (Tail.there (Tail.here _)))) | exact Tail.there (Tail.there (Tail.there (Tail.there (Tail.there (Tail.here _))))) | apply Tail.cond | (apply Tail.bind; intro _)), trivial⟩
theorem s_CoverPlan_hs : ∀ x, Tail c_s_CoverPlan.pts (fun g => c_s_CoverPlan.start g x) := fun x => by
    obtain ⟨rolls0, steps1, need2, _⟩ := x
    refine Tail.eq (Y := fun g => s_CoverPlan_t0 (fun r0 r1 steps1 need2 s18 s19 => g.1 ((r0, r1, ()), (steps1, need2, (), (), s18, s19, ()), ((), (), (), ()))) (fun r0 r1 steps1 need2 k9 i11 s18 s19 => g.2.1 ((r0, r1, ()), (steps1, need2, (), k9, i11, (), s18, s19, ()), ((), (), (), ()))) rolls0 steps1 need2) ?_ (fun g => by kernel_rfl)
    simp only [s_CoverPlan_t0]; repeat (first | exact Tail.const _ | exact Tail.here _ | exact Tail.there (Tail.here _) | exact Tail.there (Tail.there (Tail.here _)) | exact Tail.there (Tail.there (Tail.there (Tail.here _))) | exact Tail.there (Tail.there (Tail.there (Tail.there (Tail.here _)))) | exact Tail.there (Tail.there (Tail.there (Tail.there (Tail.there (Tail.here _))))) | apply Tail.cond | (apply Tail.bind; intro _))
noncomputable def s_CoverPlan_L1 (r0 : List (Int)) (r1 : List (Int)) (steps1 : Int) (need2 : Int) (s18 : Int) (s19 : Int) : Option (List Int × Bool) := c_s_CoverPlan.L.1 ((r0, r1, ()), (steps1, need2, (), (), s18, s19, ()), ((), (), (), ()))
noncomputable def s_CoverPlan_L2 (r0 : List (Int)) (r1 : List (Int)) (steps1 : Int) (need2 : Int) (k9 : Int) (i11 : Int) (s18 : Int) (s19 : Int) : Option (List Int × Bool) := c_s_CoverPlan.L.2.1 ((r0, r1, ()), (steps1, need2, (), k9, i11, (), s18, s19, ()), ((), (), (), ()))
theorem s_CoverPlan_u1 (r0 : List (Int)) (r1 : List (Int)) (steps1 : Int) (need2 : Int) (s18 : Int) (s19 : Int) : s_CoverPlan_L1 r0 r1 steps1 need2 s18 s19 = s_CoverPlan_t1 s_CoverPlan_L1 s_CoverPlan_L2 r0 r1 steps1 need2 s18 s19 :=
  (congrArg (fun g => g.1 ((r0, r1, ()), (steps1, need2, (), (), s18, s19, ()), ((), (), (), ()))) (FnCx.L_eq s_CoverPlan_ts)).trans (by kernel_rfl)
theorem s_CoverPlan_u2 (r0 : List (Int)) (r1 : List (Int)) (steps1 : Int) (need2 : Int) (k9 : Int) (i11 : Int) (s18 : Int) (s19 : Int) : s_CoverPlan_L2 r0 r1 steps1 need2 k9 i11 s18 s19 = s_CoverPlan_t2 s_CoverPlan_L1 s_CoverPlan_L2 r0 r1 steps1 need2 k9 i11 s18 s19 :=
  (congrArg (fun g => g.2.1 ((r0, r1, ()), (steps1, need2, (), k9, i11, (), s18, s19, ()), ((), (), (), ()))) (FnCx.L_eq s_CoverPlan_ts)).trans (by kernel_rfl)
noncomputable def s_CoverPlan (rolls0 : List Int) (steps1 : Int) (need2 : Int) : Option (List Int × Bool) := s_CoverPlan_t0 s_CoverPlan_L1 s_CoverPlan_L2 rolls0 steps1 need2
theorem s_CoverPlan_e (rolls0 : List Int) (steps1 : Int) (need2 : Int) : c_s_CoverPlan.start c_s_CoverPlan.L (rolls0, steps1, need2, ()) = s_CoverPlan rolls0 steps1 need2 := by kernel_rfl
noncomputable def F_s_CoverPlan : Ins c_s_CoverPlan.ins → Option (List Int × Bool) := fun x => s_CoverPlan x.1 x.2.1 x.2.2.1
noncomputable def S_s_CoverPlan : FSpec := mkF c_s_CoverPlan.env.pre c_s_CoverPlan.ins c_s_CoverPlan.out c_s_CoverPlan.inj F_s_CoverPlan
theorem h_s_CoverPlan : Cert Tryz.prog 14 S_s_CoverPlan := FnCx.certF (c := c_s_CoverPlan) F_s_CoverPlan (tyOk _ _ _) (spOk ⟨h_s_cpAll, fun _ _ h => h, trivial⟩) (fun _ _ _ _ _ hs => noDr_ok) Tryz.func14 rfl rfl Tryz.ntmps14 (by kernel_rfl) rfl rfl (fun _ => rfl) s_CoverPlan_ts s_CoverPlan_hs (fun x t hb ht => by
  obtain ⟨rolls0, steps1, need2, _⟩ := x
  exact (s_CoverPlan_e rolls0 steps1 need2).trans ht)
/-! impl.JoinsOfPlan$1 -/
noncomputable def c_i_JoinsOfPlan_c1 : FnCx := { env := env 6 [(51, S_i_within)] [], body := bodyOf Tryz.f56, res := [.tmp 2], ins := [.ro kint], out := [(kbool, true)], T := Bool, fin := fun r => r.1.1, inj := fun t => ((t, ()), ((), ())), pts := [], fuel := 400, dr := noDr }
noncomputable def i_JoinsOfPlan_c1 (k0 : Int) : Bool :=
  !i_within k0 0 7
theorem i_JoinsOfPlan_c1_e (k0 : Int) : c_i_JoinsOfPlan_c1.start c_i_JoinsOfPlan_c1.L (k0, ()) = some (i_JoinsOfPlan_c1 k0) := by kernel_rfl
noncomputable def F_i_JoinsOfPlan_c1 : Ins c_i_JoinsOfPlan_c1.ins → Bool := fun x => i_JoinsOfPlan_c1 x.1
noncomputable def S_i_JoinsOfPlan_c1 : FSpec := mkT c_i_JoinsOfPlan_c1.env.pre c_i_JoinsOfPlan_c1.ins c_i_JoinsOfPlan_c1.out c_i_JoinsOfPlan_c1.inj F_i_JoinsOfPlan_c1
theorem h_i_JoinsOfPlan_c1 : Cert Tryz.prog 56 S_i_JoinsOfPlan_c1 := FnCx.certT (c := c_i_JoinsOfPlan_c1) F_i_JoinsOfPlan_c1 (tyOk _ _ _) (spOk ⟨h_i_within, fun _ _ h => h, trivial⟩) (fun _ _ _ _ _ hs => noDr_ok) Tryz.func56 rfl rfl Tryz.ntmps56 (by kernel_rfl) rfl rfl (fun _ => rfl) trivial (fun x => .inl ⟨c_i_JoinsOfPlan_c1.start () x, fun _ => rfl⟩) (fun x hb => by
  obtain ⟨k0, _⟩ := x
  exact i_JoinsOfPlan_c1_e k0)
/-! slices.IndexFunc[[]int,int] -/
noncomputable def c_slices_IndexFunc_int__i_JoinsOfPlan_c1 : FnCx := { env := env 19 [(56, S_i_JoinsOfPlan_c1)] [], body := bodyOf Tryz.f80, res := [.tmp 4], ins := [.ro kSint, .fn 56 []], out := [(kint, true)], T := Int, fin := fun r => r.1.1, inj := fun t => ((t, ()), ((), (), ())), pts := [([.inLoop [1, 0, 1, 0, 0], .inBlock 0, .code [1, 1]], Shape.mk [Bs.row kint 3 false] [(0, Ss.one (Cs.sl 0)), (1, Ss.fn 56 []), (7, Ss.one (Cs.sc kint)), (8, Ss.one (Cs.sc kint))] [Ss.one (Cs.any), Ss.fn 56 []])], fuel := 400, dr := noDr }
noncomputable def slices_IndexFunc_int__i_JoinsOfPlan_c1_t1 (g1 : List (Int) → Int → Int → Option (Int)) (r0 : List (Int)) (s7 : Int) (s8 : Int) : Option Int :=
  bif decide (s8 < s7) then
    bif decide (0 ≤ s8) then
      bif decide (s8 < (↑(List.length r0) : Int)) then
        bif i_JoinsOfPlan_c1 (rdk kint r0 s8) then some s8 else g1 r0 s7 (IntKind.wrap IntKind.i64 (s8 + 1))
      else none
    else none
  else some (-1)
noncomputable def slices_IndexFunc_int__i_JoinsOfPlan_c1_t0 (g1 : List (Int) → Int → Int → Option (Int)) (s0 : List Int) : Option Int :=
  g1 s0 (↑(List.length s0) : Int) 0
theorem slices_IndexFunc_int__i_JoinsOfPlan_c1_ts : Tails c_slices_IndexFunc_int__i_JoinsOfPlan_c1.pts c_slices_IndexFunc_int__i_JoinsOfPlan_c1.round :=
  ⟨fun s => by
    obtain ⟨⟨r0, _⟩, ⟨_, _, s7, s8, _⟩, ⟨_, _, _⟩⟩ := s
    refine Tail.eq (Y := fun g => slices_IndexFunc_int__i_JoinsOfPlan_c1_t1 (fun r0 s7 s8 => g.1 ((r0, ()), ((), (), s7, s8, ()), ((), (), ()))) r0 s7 s8) ?_ (fun g => by kernel_rfl)
    simp only [slices_IndexFunc_int__i_JoinsOfPlan_c1_t1]; repeat (first | exact Tail.const _ | exact Tail.here _ | exact Tail.there (Tail.here _) | exact Tail.there (Tail.there (Tail.here _)) | exact Tail.there (Tail.there (Tail.there (Tail.here _))) | exact Tail.there (Tail.there (Tail.there (Tail.there (Tail.here _)))) | exact Tail.there (Tail.there (Tail.there (Tail.there (Tail.there (Tail.here _))))) | apply Tail.cond | (apply Tail.bind; intro _)), trivial⟩
theorem slices_IndexFunc_int__i_JoinsOfPlan_c1_hs : ∀ x, Tail c_slices_IndexFunc_int__i_JoinsOfPlan_c1.pts (fun g => c_slices_IndexFunc_int__i_JoinsOfPlan_c1.start g x) := fun x => by
    obtain ⟨s0, _, _⟩ := x
    refine Tail.eq (Y := fun g => slices_IndexFunc_int__i_JoinsOfPlan_c1_t0 (fun r0 s7 s8 => g.1 ((r0, ()), ((), (), s7, s8, ()), ((), (), ()))) s0) ?_ (fun g => by kernel_rfl)
    simp only [slices_IndexFunc_int__i_JoinsOfPlan_c1_t0]; repeat (first | exact Tail.const _ | exact Tail.here _ | exact Tail.there (Tail.here _) | exact Tail.there (Tail.there (Tail.here _)) | exact Tail.there (Tail.there (Tail.there (Tail.here _))) | exact Tail.there (Tail.there (Tail.there (Tail.there (Tail.here _)))) | exact Tail.there (Tail.there (Tail.there (Tail.there (Tail.there (Tail.here _))))) | apply Tail.cond | (apply Tail.bind; intro _))
noncomputable def slices_IndexFunc_int__i_JoinsOfPlan_c1_L1 (r0 : List (Int)) (s7 : Int) (s8 : Int) : Option Int := c_slices_IndexFunc_int__i_JoinsOfPlan_c1.L.1 ((r0, ()), ((), (), s7, s8, ()), ((), (), ()))
theorem slices_IndexFunc_int__i_JoinsOfPlan_c1_u1 (r0 : List (Int)) (s7 : Int) (s8 : Int) : slices_IndexFunc_int__i_JoinsOfPlan_c1_L1 r0 s7 s8 = slices_IndexFunc_int__i_JoinsOfPlan_c1_t1 slices_IndexFunc_int__i_JoinsOfPlan_c1_L1 r0 s7 s8 :=
  (congrArg (fun g => g.1 ((r0, ()), ((), (), s7, s8, ()), ((), (), ()))) (FnCx.L_eq slices_IndexFunc_int__i_JoinsOfPlan_c1_ts)).trans (by kernel_rfl)
noncomputable def slices_IndexFunc_int__i_JoinsOfPlan_c1 (s0 : List Int) : Option Int := slices_IndexFunc_int__i_JoinsOfPlan_c1_t0 slices_IndexFunc_int__i_JoinsOfPlan_c1_L1 s0
theorem slices_IndexFunc_int__i_JoinsOfPlan_c1_e (s0 : List Int) : c_slices_IndexFunc_int__i_JoinsOfPlan_c1.start c_slices_IndexFunc_int__i_JoinsOfPlan_c1.L (s0, (), ()) = slices_IndexFunc_int__i_JoinsOfPlan_c1 s0 := by kernel_rfl
noncomputable def F_slices_IndexFunc_int__i_JoinsOfPlan_c1 : Ins c_slices_IndexFunc_int__i_JoinsOfPlan_c1.ins → Option Int := fun x => slices_IndexFunc_int__i_JoinsOfPlan_c1 x.1
noncomputable def S_slices_IndexFunc_int__i_JoinsOfPlan_c1 : FSpec := mkF c_slices_IndexFunc_int__i_JoinsOfPlan_c1.env.pre c_slices_IndexFunc_int__i_JoinsOfPlan_c1.ins c_slices_IndexFunc_int__i_JoinsOfPlan_c1.out c_slices_IndexFunc_int__i_JoinsOfPlan_c1.inj F_slices_IndexFunc_int__i_JoinsOfPlan_c1
theorem h_slices_IndexFunc_int__i_JoinsOfPlan_c1 : Cert Tryz.prog 80 S_slices_IndexFunc_int__i_JoinsOfPlan_c1 := FnCx.certF (c := c_slices_IndexFunc_int__i_JoinsOfPlan_c1) F_slices_IndexFunc_int__i_JoinsOfPlan_c1 (tyOk _ _ _) (spOk ⟨h_i_JoinsOfPlan_c1, fun _ _ h => h, trivial⟩) (fun _ _ _ _ _ hs => noDr_ok) Tryz.func80 rfl rfl Tryz.ntmps80 (by kernel_rfl) rfl rfl (fun _ => rfl) slices_IndexFunc_int__i_JoinsOfPlan_c1_ts slices_IndexFunc_int__i_JoinsOfPlan_c1_hs (fun x t hb ht => by
  obtain ⟨s0, _, _⟩ := x
  exact (slices_IndexFunc_int__i_JoinsOfPlan_c1_e s0).trans ht)
/-! slices.ContainsFunc[[]int,int] -/
noncomputable def c_slices_ContainsFunc_int__i_JoinsOfPlan_c1 : FnCx := { env := env 9 [(80, S_slices_IndexFunc_int__i_JoinsOfPlan_c1)] [], body := bodyOf Tryz.f52, res := [.tmp 4], ins := [.ro kSint, .fn 56 []], out := [(kbool, true)], T := Bool, fin := fun r => r.1.1, inj := fun t => ((t, ()), ((), (), ())), pts := [], fuel := 400, dr := noDr }
noncomputable def slices_ContainsFunc_int__i_JoinsOfPlan_c1 (s0 : List Int) : Option Bool :=
  Option.bind (slices_IndexFunc_int__i_JoinsOfPlan_c1 s0) fun r => some (decide (r ≥ 0))
theorem slices_ContainsFunc_int__i_JoinsOfPlan_c1_e (s0 : List Int) : c_slices_ContainsFunc_int__i_JoinsOfPlan_c1.start c_slices_ContainsFunc_int__i_JoinsOfPlan_c1.L (s0, (), ()) = slices_ContainsFunc_int__i_JoinsOfPlan_c1 s0 := by kernel_rfl
noncomputable def F_slices_ContainsFunc_int__i_JoinsOfPlan_c1 : Ins c_slices_ContainsFunc_int__i_JoinsOfPlan_c1.ins → Option Bool := fun x => slices_ContainsFunc_int__i_JoinsOfPlan_c1 x.1
noncomputable def S_slices_ContainsFunc_int__i_JoinsOfPlan_c1 : FSpec := mkF c_slices_ContainsFunc_int__i_JoinsOfPlan_c1.env.pre c_slices_ContainsFunc_int__i_JoinsOfPlan_c1.ins c_slices_ContainsFunc_int__i_JoinsOfPlan_c1.out c_slices_ContainsFunc_int__i_JoinsOfPlan_c1.inj F_slices_ContainsFunc_int__i_JoinsOfPlan_c1
theorem h_slices_ContainsFunc_int__i_JoinsOfPlan_c1 : Cert Tryz.prog 52 S_slices_ContainsFunc_int__i_JoinsOfPlan_c1 := FnCx.certF (c := c_slices_ContainsFunc_int__i_JoinsOfPlan_c1) F_slices_ContainsFunc_int__i_JoinsOfPlan_c1 (tyOk _ _ _) (spOk ⟨h_slices_IndexFunc_int__i_JoinsOfPlan_c1, fun _ _ h => h, trivial⟩) (fun _ _ _ _ _ hs => noDr_ok) Tryz.func52 rfl rfl Tryz.ntmps52 (by kernel_rfl) rfl rfl (fun _ => rfl) trivial (fun x => .inl ⟨c_slices_ContainsFunc_int__i_JoinsOfPlan_c1.start () x, fun _ => rfl⟩) (fun x t hb ht => by
  obtain ⟨s0, _, _⟩ := x
  exact (slices_ContainsFunc_int__i_JoinsOfPlan_c1_e s0).trans ht)
/-! impl.JoinsOfPlan -/
noncomputable def c_i_JoinsOfPlan : FnCx := { env := env 37 [(48, S_i_isCover), (52, S_slices_ContainsFunc_int__i_JoinsOfPlan_c1)] [], body := bodyOf Tryz.f19, res := [.tmp 2, .tmp 3], ins := [.ro kSint], out := [(kSint, true), (kbool, true)], T := List Int × Bool, fin := fun r => (r.1.1, r.1.2.1), inj := fun t => ((t.1, t.2, ()), ((), ())), pts := [([.inLoop [1, 1, 1, 0, 1, 0, 0], .inBlock 0, .code [1, 1, 1, 1]], Shape.mk [Bs.row kint 3 false, Bs.row kint 3 true] [(0, Ss.one (Cs.sl 0)), (4, Ss.one (Cs.sl 1)), (5, Ss.one (Cs.sc kint))] [Ss.one (Cs.any)])], fuel := 400, dr := evDr (env 37 [(48, S_i_isCover), (52, S_slices_ContainsFunc_int__i_JoinsOfPlan_c1)] []) }
noncomputable def i_JoinsOfPlan_t1 (g1 : List (Int) → List (Int) → Int → Option (List Int × Bool)) (r0 : List (Int)) (r1 : List (Int)) (i5 : Int) : Option (List Int × Bool) :=
  bif decide (i5 < (↑(List.length r0) : Int)) then
    bif decide (0 ≤ i5) then
      bif decide (i5 < (↑(List.length r0) : Int)) then
        bif decide (0 ≤ IntKind.wrap IntKind.i64 (i5 - 1)) then
          bif decide (IntKind.wrap IntKind.i64 (i5 - 1) < (↑(List.length r0) : Int)) then
            bif rdk kint r0 i5 != rdk kint r0 (IntKind.wrap IntKind.i64 (i5 - 1)) then
              bif Nat.ble (List.length r1 + 1) 4294967296 then g1 r0 (r1 ++ [IntKind.wrap IntKind.i64 (i5 + 1)]) (IntKind.wrap IntKind.i64 (i5 + 1)) else none
            else g1 r0 r1 (IntKind.wrap IntKind.i64 (i5 + 1))
          else none
        else none
      else none
    else none
  else some (r1, true)
noncomputable def i_JoinsOfPlan_t0 (g1 : List (Int) → List (Int) → Int → Option (List Int × Bool)) (plan0 : List Int) : Option (List Int × Bool) :=
  bif !i_isCover (↑(List.length plan0) : Int) then some ([], false)
  else Option.bind (slices_ContainsFunc_int__i_JoinsOfPlan_c1 plan0) fun r => bif r then some ([], false) else g1 plan0 [] 1
theorem i_JoinsOfPlan_ts : Tails c_i_JoinsOfPlan.pts c_i_JoinsOfPlan.round :=
  ⟨fun s => by
    obtain ⟨⟨r0, r1, _⟩, ⟨_, _, i5, _⟩, ⟨_, _⟩⟩ := s
    refine Tail.eq (Y := fun g => i_JoinsOfPlan_t1 (fun r0 r1 i5 => g.1 ((r0, r1, ()), ((), (), i5, ()), ((), ()))) r0 r1 i5) ?_ (fun g => by kernel_rfl)
    simp only [i_JoinsOfPlan_t1]; repeat (first | exact Tail.const _ | exact Tail.here _ | exact Tail.there (Tail.here _) | exact Tail.there (Tail.there (Tail.here _)) | exact Tail.there (Tail.there (Tail.there (Tail.here _))) | exact Tail.there (Tail.there (Tail.there (Tail.there (Tail.here _)))) | exact Tail.there (Tail.there (Tail.there (Tail.there (Tail.there (Tail.here _))))) | apply Tail.cond | (apply Tail.bind; intro _)), trivial⟩
theorem i_JoinsOfPlan_hs : ∀ x, Tail c_i_JoinsOfPlan.pts (fun g => c_i_JoinsOfPlan.start g x) := fun x => by
    obtain ⟨plan0, _⟩ := x
    refine Tail.eq (Y := fun g => i_JoinsOfPlan_t0 (fun r0 r1 i5 => g.1 ((r0, r1, ()), ((), (), i5, ()), ((), ()))) plan0) ?_ (fun g => by kernel_rfl)
    simp only [i_JoinsOfPlan_t0]; repeat (first | exact Tail.const _ | exact Tail.here _ | exact Tail.there (Tail.here _) | exact Tail.there (Tail.there (Tail.here _)) | exact Tail.there (Tail.there (Tail.there (Tail.here _))) | exact Tail.there (Tail.there (Tail.there (Tail.there (Tail.here _)))) | exact Tail.there (Tail.there (Tail.there (Tail.there (Tail.there (Tail.here _))))) | apply Tail.cond | (apply Tail.bind; intro _))
noncomputable def i_JoinsOfPlan_L1 (r0 : List (Int)) (r1 : List (Int)) (i5 : Int) : Option (List Int × Bool) := c_i_JoinsOfPlan.L.1 ((r0, r1, ()), ((), (), i5, ()), ((), ()))
theorem i_JoinsOfPlan_u1 (r0 : List (Int)) (r1 : List (Int)) (i5 : Int) : i_JoinsOfPlan_L1 r0 r1 i5 = i_JoinsOfPlan_t1 i_JoinsOfPlan_L1 r0 r1 i5 :=
  (congrArg (fun g => g.1 ((r0, r1, ()), ((), (), i5, ()), ((), ()))) (FnCx.L_eq i_JoinsOfPlan_ts)).trans (by kernel_rfl)
noncomputable def i_JoinsOfPlan (plan0 : List Int) : Option (List Int × Bool) := i_JoinsOfPlan_t0 i_JoinsOfPlan_L1 plan0
theorem i_JoinsOfPlan_e (plan0 : List Int) : c_i_JoinsOfPlan.start c_i_JoinsOfPlan.L (plan0, ()) = i_JoinsOfPlan plan0 := by kernel_rfl
noncomputable def F_i_JoinsOfPlan : Ins c_i_JoinsOfPlan.ins → Option (List Int × Bool) := fun x => i_JoinsOfPlan x.1
noncomputable def S_i_JoinsOfPlan : FSpec := mkF c_i_JoinsOfPlan.env.pre c_i_JoinsOfPlan.ins c_i_JoinsOfPlan.out c_i_JoinsOfPlan.inj F_i_JoinsOfPlan
theorem h_i_JoinsOfPlan : Cert Tryz.prog 19 S_i_JoinsOfPlan := FnCx.certF (c := c_i_JoinsOfPlan) F_i_JoinsOfPlan (tyOk _ _ _) (spOk ⟨h_i_isCover, fun _ _ h => h, ⟨h_slices_ContainsFunc_int__i_JoinsOfPlan_c1, fun _ _ h => h, trivial⟩⟩) (fun _ _ _ _ _ hs => evDr_ok (tyOk _ _ _) hs follows) Tryz.func19 rfl rfl Tryz.ntmps19 (by kernel_rfl) rfl rfl (fun _ => rfl) i_JoinsOfPlan_ts i_JoinsOfPlan_hs (fun x t hb ht => by
  obtain ⟨plan0, _⟩ := x
  exact (i_JoinsOfPlan_e plan0).trans ht)
/-! spec.JoinsOfPlan -/
noncomputable def c_s_JoinsOfPlan : FnCx := { env := env 37 [(60, S_s_l1In), (61, S_s_l1All)] [], body := bodyOf Tryz.f26, res := [.tmp 2, .tmp 3], ins := [.ro kSint], out := [(kSint, true), (kbool, true)], T := List Int × Bool, fin := fun r => (r.1.1, r.1.2.1), inj := fun t => ((t.1, t.2, ()), ((), ())), pts := [([.inLoop [1, 1, 1, 0, 1, 0, 0], .inBlock 0, .code [1, 1, 1, 1]], Shape.mk [Bs.row kint 3 false, Bs.row kint 3 true] [(0, Ss.one (Cs.sl 0)), (4, Ss.one (Cs.sl 1)), (5, Ss.one (Cs.sc kint))] [Ss.one (Cs.any)])], fuel := 400, dr := evDr (env 37 [(60, S_s_l1In), (61, S_s_l1All)] []) }
noncomputable def s_JoinsOfPlan_t1 (g1 : List (Int) → List (Int) → Int → Option (List Int × Bool)) (r0 : List (Int)) (r1 : List (Int)) (k5 : Int) : Option (List Int × Bool) :=
  bif decide (k5 < (↑(List.length r0) : Int)) then
    bif decide (0 ≤ k5) then
      bif decide (k5 < (↑(List.length r0) : Int)) then
        bif decide (0 ≤ IntKind.wrap IntKind.i64 (k5 - 1)) then
          bif decide (IntKind.wrap IntKind.i64 (k5 - 1) < (↑(List.length r0) : Int)) then
            bif rdk kint r0 k5 != rdk kint r0 (IntKind.wrap IntKind.i64 (k5 - 1)) then
              bif Nat.ble (List.length r1 + 1) 4294967296 then g1 r0 (r1 ++ [IntKind.wrap IntKind.i64 (k5 + 1)]) (IntKind.wrap IntKind.i64 (k5 + 1)) else none
            else g1 r0 r1 (IntKind.wrap IntKind.i64 (k5 + 1))
          else none
        else none
      else none
    else none
  else some (r1, true)
noncomputable def s_JoinsOfPlan_t0 (g1 : List (Int) → List (Int) → Int → Option (List Int × Bool)) (plan0 : List Int) : Option (List Int × Bool) :=
  bif !s_l1In (↑(List.length plan0) : Int) 1 100 then some ([], false) else bif !s_l1All_n plan0 0 7 then some ([], false) else g1 plan0 [] 1
theorem s_JoinsOfPlan_ts : Tails c_s_JoinsOfPlan.pts c_s_JoinsOfPlan.round :=
  ⟨fun s => by
    obtain ⟨⟨r0, r1, _⟩, ⟨_, _, k5, _⟩, ⟨_, _⟩⟩ := s
    refine Tail.eq (Y := fun g => s_JoinsOfPlan_t1 (fun r0 r1 k5 => g.1 ((r0, r1, ()), ((), (), k5, ()), ((), ()))) r0 r1 k5) ?_ (fun g => by kernel_rfl)
    simp only [s_JoinsOfPlan_t1]; repeat (first | exact Tail.const _ | exact Tail.here _ | exact Tail.there (Tail.here _) | exact Tail.there (Tail.there (Tail.here _)) | exact Tail.there (Tail.there (Tail.there (Tail.here _))) | exact Tail.there (Tail.there (Tail.there (Tail.there (Tail.here _)))) | exact Tail.there (Tail.there (Tail.there (Tail.there (Tail.there (Tail.here _))))) | apply Tail.cond | (apply Tail.bind; intro _)), trivial⟩
theorem s_JoinsOfPlan_hs : ∀ x, Tail c_s_JoinsOfPlan.pts (fun g => c_s_JoinsOfPlan.start g x) := fun x => by
    obtain ⟨plan0, _⟩ := x
    refine Tail.eq (Y := fun g => s_JoinsOfPlan_t0 (fun r0 r1 k5 => g.1 ((r0, r1, ()), ((), (), k5, ()), ((), ()))) plan0) ?_ (fun g => by kernel_rfl)
    simp only [s_JoinsOfPlan_t0]; repeat (first | exact Tail.const _ | exact Tail.here _ | exact Tail.there (Tail.here _) | exact Tail.there (Tail.there (Tail.here _)) | exact Tail.there (Tail.there (Tail.there (Tail.here _))) | exact Tail.there (Tail.there (Tail.there (Tail.there (Tail.here _)))) | exact Tail.there (Tail.there (Tail.there (Tail.there (Tail.there (Tail.here _))))) | apply Tail.cond | (apply Tail.bind; intro _))
noncomputable def s_JoinsOfPlan_L1 (r0 : List (Int)) (r1 : List (Int)) (k5 : Int) : Option (List Int × Bool) := c_s_JoinsOfPlan.L.1 ((r0, r1, ()), ((), (), k5, ()), ((), ()))
theorem s_JoinsOfPlan_u1 (r0 : List (Int)) (r1 : List (Int)) (k5 : Int) : s_JoinsOfPlan_L1 r0 r1 k5 = s_JoinsOfPlan_t1 s_JoinsOfPlan_L1 r0 r1 k5 :=
  (congrArg (fun g => g.1 ((r0, r1, ()), ((), (), k5, ()), ((), ()))) (FnCx.L_eq s_JoinsOfPlan_ts)).trans (by kernel_rfl)
noncomputable def s_JoinsOfPlan (plan0 : List Int) : Option (List Int × Bool) := s_JoinsOfPlan_t0 s_JoinsOfPlan_L1 plan0
theorem s_JoinsOfPlan_e (plan0 : List Int) : c_s_JoinsOfPlan.start c_s_JoinsOfPlan.L (plan0, ()) = s_JoinsOfPlan plan0 := by kernel_rfl
noncomputable def F_s_JoinsOfPlan : Ins c_s_JoinsOfPlan.ins → Option (List Int × Bool) := fun x => s_JoinsOfPlan x.1
noncomputable def S_s_JoinsOfPlan : FSpec := mkF c_s_JoinsOfPlan.env.pre c_s_JoinsOfPlan.ins c_s_JoinsOfPlan.out c_s_JoinsOfPlan.inj F_s_JoinsOfPlan
theorem h_s_JoinsOfPlan : Cert Tryz.prog 26 S_s_JoinsOfPlan := FnCx.certF (c := c_s_JoinsOfPlan) F_s_JoinsOfPlan (tyOk _ _ _) (spOk ⟨h_s_l1In, fun _ _ h => h, ⟨h_s_l1All, fun _ _ h => h, trivial⟩⟩) (fun _ _ _ _ _ hs => evDr_ok (tyOk _ _ _) hs follows) Tryz.func26 rfl rfl Tryz.ntmps26 (by kernel_rfl) rfl rfl (fun _ => rfl) s_JoinsOfPlan_ts s_JoinsOfPlan_hs (fun x t hb ht => by
  obtain ⟨plan0, _⟩ := x
  exact (s_JoinsOfPlan_e plan0).trans ht)
/-! impl.GreatestNeed -/
noncomputable def c_i_GreatestNeed : FnCx := { env := env 25 [(16, S_i_AreRolls), (48, S_i_isCover), (50, S_i_covers)] [], body := bodyOf Tryz.f24, res := [.tmp 4, .tmp 5], ins := [.ro kSint, .ro kint], out := [(kint, true), (kbool, true)], T := Int × Bool, fin := fun r => (r.1.1, r.1.2.1), inj := fun t => ((t.1, t.2, ()), ((), (), ())), pts := [([.inLoop [1, 1, 0, 1, 0, 0], .inBlock 0, .code [1, 1, 1]], Shape.mk [Bs.row kint 3 false] [(0, Ss.one (Cs.sl 0)), (1, Ss.one (Cs.sc kint)), (6, Ss.one (Cs.sc kint))] [Ss.one (Cs.any), Ss.one (Cs.any)])], fuel := 400, dr := noDr }
noncomputable def i_GreatestNeed_t1 (g1 : List (Int) → Int → Int → Option (Int × Bool)) (r0 : List (Int)) (steps1 : Int) (need6 : Int) : Option (Int × Bool) :=
  bif decide (need6 > 0) then
    Option.bind (i_covers r0 need6) fun r => bif decide (r ≥ steps1) then some (need6, true) else g1 r0 steps1 (IntKind.wrap IntKind.i64 (need6 - 1))
  else some (0, false)
noncomputable def i_GreatestNeed_t0 (g1 : List (Int) → Int → Int → Option (Int × Bool)) (rolls0 : List Int) (steps1 : Int) : Option (Int × Bool) :=
  bif !i_AreRolls rolls0 then some (0, false) else bif !i_isCover steps1 then some (0, false) else g1 rolls0 steps1 100
theorem i_GreatestNeed_ts : Tails c_i_GreatestNeed.pts c_i_GreatestNeed.round :=
  ⟨fun s => by
    obtain ⟨⟨r0, _⟩, ⟨_, steps1, need6, _⟩, ⟨_, _, _⟩⟩ := s
    refine Tail.eq (Y := fun g => i_GreatestNeed_t1 (fun r0 steps1 need6 => g.1 ((r0, ()), ((), steps1, need6, ()), ((), (), ()))) r0 steps1 need6) ?_ (fun g => by kernel_rfl)
    simp only [i_GreatestNeed_t1]; repeat (first | exact Tail.const _ | exact Tail.here _ | exact Tail.there (Tail.here _) | exact Tail.there (Tail.there (Tail.here _)) | exact Tail.there (Tail.there (Tail.there (Tail.here _))) | exact Tail.there (Tail.there (Tail.there (Tail.there (Tail.here _)))) | exact Tail.there (Tail.there (Tail.there (Tail.there (Tail.there (Tail.here _))))) | apply Tail.cond | (apply Tail.bind; intro _)), trivial⟩
theorem i_GreatestNeed_hs : ∀ x, Tail c_i_GreatestNeed.pts (fun g => c_i_GreatestNeed.start g x) := fun x => by
    obtain ⟨rolls0, steps1, _⟩ := x
    refine Tail.eq (Y := fun g => i_GreatestNeed_t0 (fun r0 steps1 need6 => g.1 ((r0, ()), ((), steps1, need6, ()), ((), (), ()))) rolls0 steps1) ?_ (fun g => by kernel_rfl)
    simp only [i_GreatestNeed_t0]; repeat (first | exact Tail.const _ | exact Tail.here _ | exact Tail.there (Tail.here _) | exact Tail.there (Tail.there (Tail.here _)) | exact Tail.there (Tail.there (Tail.there (Tail.here _))) | exact Tail.there (Tail.there (Tail.there (Tail.there (Tail.here _)))) | exact Tail.there (Tail.there (Tail.there (Tail.there (Tail.there (Tail.here _))))) | apply Tail.cond | (apply Tail.bind; intro _))
noncomputable def i_GreatestNeed_L1 (r0 : List (Int)) (steps1 : Int) (need6 : Int) : Option (Int × Bool) := c_i_GreatestNeed.L.1 ((r0, ()), ((), steps1, need6, ()), ((), (), ()))
theorem i_GreatestNeed_u1 (r0 : List (Int)) (steps1 : Int) (need6 : Int) : i_GreatestNeed_L1 r0 steps1 need6 = i_GreatestNeed_t1 i_GreatestNeed_L1 r0 steps1 need6 :=
  (congrArg (fun g => g.1 ((r0, ()), ((), steps1, need6, ()), ((), (), ()))) (FnCx.L_eq i_GreatestNeed_ts)).trans (by kernel_rfl)
noncomputable def i_GreatestNeed (rolls0 : List Int) (steps1 : Int) : Option (Int × Bool) := i_GreatestNeed_t0 i_GreatestNeed_L1 rolls0 steps1
theorem i_GreatestNeed_e (rolls0 : List Int) (steps1 : Int) : c_i_GreatestNeed.start c_i_GreatestNeed.L (rolls0, steps1, ()) = i_GreatestNeed rolls0 steps1 := by kernel_rfl
noncomputable def F_i_GreatestNeed : Ins c_i_GreatestNeed.ins → Option (Int × Bool) := fun x => i_GreatestNeed x.1 x.2.1
noncomputable def S_i_GreatestNeed : FSpec := mkF c_i_GreatestNeed.env.pre c_i_GreatestNeed.ins c_i_GreatestNeed.out c_i_GreatestNeed.inj F_i_GreatestNeed
theorem h_i_GreatestNeed : Cert Tryz.prog 24 S_i_GreatestNeed := FnCx.certF (c := c_i_GreatestNeed) F_i_GreatestNeed (tyOk _ _ _) (spOk ⟨h_i_AreRolls, fun _ _ h => h, ⟨h_i_isCover, fun _ _ h => h, ⟨h_i_covers, fun _ _ h => h, trivial⟩⟩⟩) (fun _ _ _ _ _ hs => noDr_ok) Tryz.func24 rfl rfl Tryz.ntmps24 (by kernel_rfl) rfl rfl (fun _ => rfl) i_GreatestNeed_ts i_GreatestNeed_hs (fun x t hb ht => by
  obtain ⟨rolls0, steps1, _⟩ := x
  exact (i_GreatestNeed_e rolls0 steps1).trans ht)
/-! spec.GreatestNeed -/
noncomputable def c_s_GreatestNeed : FnCx := { env := env 25 [(55, S_s_cpRolls), (60, S_s_l1In), (58, S_s_cpSum)] [], body := bodyOf Tryz.f25, res := [.tmp 4, .tmp 5], ins := [.ro kSint, .ro kint], out := [(kint, true), (kbool, true)], T := Int × Bool, fin := fun r => (r.1.1, r.1.2.1), inj := fun t => ((t.1, t.2, ()), ((), (), ())), pts := [([.inLoop [1, 1, 0, 1, 0, 0], .inBlock 0, .code [1, 1, 1]], Shape.mk [Bs.row kint 3 false] [(0, Ss.one (Cs.sl 0)), (1, Ss.one (Cs.sc kint)), (6, Ss.one (Cs.sc kint))] [Ss.one (Cs.any), Ss.one (Cs.any)])], fuel := 400, dr := noDr }
noncomputable def s_GreatestNeed_t1 (g1 : List (Int) → Int → Int → Option (Int × Bool)) (r0 : List (Int)) (steps1 : Int) (need6 : Int) : Option (Int × Bool) :=
  bif decide (need6 > 0) then
    Option.bind (s_cpSum r0 need6) fun r => bif decide (r ≥ steps1) then some (need6, true) else g1 r0 steps1 (IntKind.wrap IntKind.i64 (need6 - 1))
  else some (0, false)
noncomputable def s_GreatestNeed_t0 (g1 : List (Int) → Int → Int → Option (Int × Bool)) (rolls0 : List Int) (steps1 : Int) : Option (Int × Bool) :=
  bif !s_cpRolls rolls0 then some (0, false) else bif !s_l1In steps1 1 100 then some (0, false) else g1 rolls0 steps1 100
theorem s_GreatestNeed_ts : Tails c_s_GreatestNeed.pts c_s_GreatestNeed.round :=
  ⟨fun s => by
    obtain ⟨⟨r0, _⟩, ⟨_, steps1, need6, _⟩, ⟨_, _, _⟩⟩ := s
    refine Tail.eq (Y := fun g => s_GreatestNeed_t1 (fun r0 steps1 need6 => g.1 ((r0, ()), ((), steps1, need6, ()), ((), (), ()))) r0 steps1 need6) ?_ (fun g => by kernel_rfl)
    simp only [s_GreatestNeed_t1]; repeat (first | exact Tail.const _ | exact Tail.here _ | exact Tail.there (Tail.here _) | exact Tail.there (Tail.there (Tail.here _)) | exact Tail.there (Tail.there (Tail.there (Tail.here _))) | exact Tail.there (Tail.there (Tail.there (Tail.there (Tail.here _)))) | exact Tail.there (Tail.there (Tail.there (Tail.there (Tail.there (Tail.here _))))) | apply Tail.cond | (apply Tail.bind; intro _)), trivial⟩
theorem s_GreatestNeed_hs : ∀ x, Tail c_s_GreatestNeed.pts (fun g => c_s_GreatestNeed.start g x) := fun x => by
    obtain ⟨rolls0, steps1, _⟩ := x
    refine Tail.eq (Y := fun g => s_GreatestNeed_t0 (fun r0 steps1 need6 => g.1 ((r0, ()), ((), steps1, need6, ()), ((), (), ()))) rolls0 steps1) ?_ (fun g => by kernel_rfl)
    simp only [s_GreatestNeed_t0]; repeat (first | exact Tail.const _ | exact Tail.here _ | exact Tail.there (Tail.here _) | exact Tail.there (Tail.there (Tail.here _)) | exact Tail.there (Tail.there (Tail.there (Tail.here _))) | exact Tail.there (Tail.there (Tail.there (Tail.there (Tail.here _)))) | exact Tail.there (Tail.there (Tail.there (Tail.there (Tail.there (Tail.here _))))) | apply Tail.cond | (apply Tail.bind; intro _))
noncomputable def s_GreatestNeed_L1 (r0 : List (Int)) (steps1 : Int) (need6 : Int) : Option (Int × Bool) := c_s_GreatestNeed.L.1 ((r0, ()), ((), steps1, need6, ()), ((), (), ()))
theorem s_GreatestNeed_u1 (r0 : List (Int)) (steps1 : Int) (need6 : Int) : s_GreatestNeed_L1 r0 steps1 need6 = s_GreatestNeed_t1 s_GreatestNeed_L1 r0 steps1 need6 :=
  (congrArg (fun g => g.1 ((r0, ()), ((), steps1, need6, ()), ((), (), ()))) (FnCx.L_eq s_GreatestNeed_ts)).trans (by kernel_rfl)
noncomputable def s_GreatestNeed (rolls0 : List Int) (steps1 : Int) : Option (Int × Bool) := s_GreatestNeed_t0 s_GreatestNeed_L1 rolls0 steps1
theorem s_GreatestNeed_e (rolls0 : List Int) (steps1 : Int) : c_s_GreatestNeed.start c_s_GreatestNeed.L (rolls0, steps1, ()) = s_GreatestNeed rolls0 steps1 := by kernel_rfl
noncomputable def F_s_GreatestNeed : Ins c_s_GreatestNeed.ins → Option (Int × Bool) := fun x => s_GreatestNeed x.1 x.2.1
noncomputable def S_s_GreatestNeed : FSpec := mkF c_s_GreatestNeed.env.pre c_s_GreatestNeed.ins c_s_GreatestNeed.out c_s_GreatestNeed.inj F_s_GreatestNeed
theorem h_s_GreatestNeed : Cert Tryz.prog 25 S_s_GreatestNeed := FnCx.certF (c := c_s_GreatestNeed) F_s_GreatestNeed (tyOk _ _ _) (spOk ⟨h_s_cpRolls, fun _ _ h => h, ⟨h_s_l1In, fun _ _ h => h, ⟨h_s_cpSum, fun _ _ h => h, trivial⟩⟩⟩) (fun _ _ _ _ _ hs => noDr_ok) Tryz.func25 rfl rfl Tryz.ntmps25 (by kernel_rfl) rfl rfl (fun _ => rfl) s_GreatestNeed_ts s_GreatestNeed_hs (fun x t hb ht => by
  obtain ⟨rolls0, steps1, _⟩ := x
  exact (s_GreatestNeed_e rolls0 steps1).trans ht)
/-! impl.StepsOfRolls -/
noncomputable def c_i_StepsOfRolls : FnCx := { env := env 17 [(16, S_i_AreRolls), (49, S_i_isNeed), (50, S_i_covers)] [], body := bodyOf Tryz.f20, res := [.tmp 4, .tmp 5], ins := [.ro kSint, .ro kint], out := [(kint, true), (kbool, true)], T := Int × Bool, fin := fun r => (r.1.1, r.1.2.1), inj := fun t => ((t.1, t.2, ()), ((), (), ())), pts := [], fuel := 400, dr := noDr }
noncomputable def i_StepsOfRolls (rolls0 : List Int) (need1 : Int) : Option (Int × Bool) :=
  bif !i_AreRolls rolls0 then some (0, false) else bif !i_isNeed need1 then some (0, false) else Option.bind (i_covers rolls0 need1) fun r => some (r, true)
theorem i_StepsOfRolls_e (rolls0 : List Int) (need1 : Int) : c_i_StepsOfRolls.start c_i_StepsOfRolls.L (rolls0, need1, ()) = i_StepsOfRolls rolls0 need1 := by kernel_rfl
noncomputable def F_i_StepsOfRolls : Ins c_i_StepsOfRolls.ins → Option (Int × Bool) := fun x => i_StepsOfRolls x.1 x.2.1
noncomputable def S_i_StepsOfRolls : FSpec := mkF c_i_StepsOfRolls.env.pre c_i_StepsOfRolls.ins c_i_StepsOfRolls.out c_i_StepsOfRolls.inj F_i_StepsOfRolls
theorem h_i_StepsOfRolls : Cert Tryz.prog 20 S_i_StepsOfRolls := FnCx.certF (c := c_i_StepsOfRolls) F_i_StepsOfRolls (tyOk _ _ _) (spOk ⟨h_i_AreRolls, fun _ _ h => h, ⟨h_i_isNeed, fun _ _ h => h, ⟨h_i_covers, fun _ _ h => h, trivial⟩⟩⟩) (fun _ _ _ _ _ hs => noDr_ok) Tryz.func20 rfl rfl Tryz.ntmps20 (by kernel_rfl) rfl rfl (fun _ => rfl) trivial (fun x => .inl ⟨c_i_StepsOfRolls.start () x, fun _ => rfl⟩) (fun x t hb ht => by
  obtain ⟨rolls0, need1, _⟩ := x
  exact (i_StepsOfRolls_e rolls0 need1).trans ht)
/-! spec.StepsOfRolls -/
noncomputable def c_s_StepsOfRolls : FnCx := { env := env 17 [(55, S_s_cpRolls), (57, S_s_cpNeed), (58, S_s_cpSum)] [], body := bodyOf Tryz.f21, res := [.tmp 4, .tmp 5], ins := [.ro kSint, .ro kint], out := [(kint, true), (kbool, true)], T := Int × Bool, fin := fun r => (r.1.1, r.1.2.1), inj := fun t => ((t.1, t.2, ()), ((), (), ())), pts := [], fuel := 400, dr := noDr }
noncomputable def s_StepsOfRolls (rolls0 : List Int) (need1 : Int) : Option (Int × Bool) :=
  bif !s_cpRolls rolls0 then some (0, false) else bif !s_cpNeed need1 then some (0, false) else Option.bind (s_cpSum rolls0 need1) fun r => some (r, true)
theorem s_StepsOfRolls_e (rolls0 : List Int) (need1 : Int) : c_s_StepsOfRolls.start c_s_StepsOfRolls.L (rolls0, need1, ()) = s_StepsOfRolls rolls0 need1 := by kernel_rfl
noncomputable def F_s_StepsOfRolls : Ins c_s_StepsOfRolls.ins → Option (Int × Bool) := fun x => s_StepsOfRolls x.1 x.2.1
noncomputable def S_s_StepsOfRolls : FSpec := mkF c_s_StepsOfRolls.env.pre c_s_StepsOfRolls.ins c_s_StepsOfRolls.out c_s_StepsOfRolls.inj F_s_StepsOfRolls
theorem h_s_StepsOfRolls : Cert Tryz.prog 21 S_s_StepsOfRolls := FnCx.certF (c := c_s_StepsOfRolls) F_s_StepsOfRolls (tyOk _ _ _) (spOk ⟨h_s_cpRolls, fun _ _ h => h, ⟨h_s_cpNeed, fun _ _ h => h, ⟨h_s_cpSum, fun _ _ h => h, trivial⟩⟩⟩) (fun _ _ _ _ _ hs => noDr_ok) Tryz.func21 rfl rfl Tryz.ntmps21 (by kernel_rfl) rfl rfl (fun _ => rfl) trivial (fun x => .inl ⟨c_s_StepsOfRolls.start () x, fun _ => rfl⟩) (fun x t hb ht => by
  obtain ⟨rolls0, need1, _⟩ := x
  exact (s_StepsOfRolls_e rolls0 need1).trans ht)
/-! impl.StepsOfRoll -/
noncomputable def c_i_StepsOfRoll : FnCx := { env := env 21 [(54, S_i_isRoll), (49, S_i_isNeed)] [], body := bodyOf Tryz.f27, res := [.tmp 4, .tmp 5, .tmp 6], ins := [.ro kint, .ro kint], out := [(kint, true), (kint, true), (kbool, true)], T := Int × Int × Bool, fin := fun r => (r.1.1, r.1.2.1, r.1.2.2.1), inj := fun t => ((t.1, t.2.1, t.2.2, ()), ((), (), ())), pts := [], fuel := 400, dr := evDr (env 21 [(54, S_i_isRoll), (49, S_i_isNeed)] []) }
noncomputable def i_StepsOfRoll (roll0 : Int) (need1 : Int) : Option (Int × Int × Bool) :=
  bif !i_isRoll roll0 then some (0, 0, false)
  else
    bif !i_isNeed need1 then some (0, 0, false)
    else bif need1 == 0 then none else bif need1 == 0 then none else some (IntKind.wrap IntKind.i64 (Int.tdiv roll0 need1), Int.tmod roll0 need1, true)
theorem i_StepsOfRoll_e (roll0 : Int) (need1 : Int) : c_i_StepsOfRoll.start c_i_StepsOfRoll.L (roll0, need1, ()) = i_StepsOfRoll roll0 need1 := by kernel_rfl
noncomputable def F_i_StepsOfRoll : Ins c_i_StepsOfRoll.ins → Option (Int × Int × Bool) := fun x => i_StepsOfRoll x.1 x.2.1
noncomputable def S_i_StepsOfRoll : FSpec := mkF c_i_StepsOfRoll.env.pre c_i_StepsOfRoll.ins c_i_StepsOfRoll.out c_i_StepsOfRoll.inj F_i_StepsOfRoll
theorem h_i_StepsOfRoll : Cert Tryz.prog 27 S_i_StepsOfRoll := FnCx.certF (c := c_i_StepsOfRoll) F_i_StepsOfRoll (tyOk _ _ _) (spOk ⟨h_i_isRoll, fun _ _ h => h, ⟨h_i_isNeed, fun _ _ h => h, trivial⟩⟩) (fun _ _ _ _ _ hs => evDr_ok (tyOk _ _ _) hs follows) Tryz.func27 rfl rfl Tryz.ntmps27 (by kernel_rfl) rfl rfl (fun _ => rfl) trivial (fun x => .inl ⟨c_i_StepsOfRoll.start () x, fun _ => rfl⟩) (fun x t hb ht => by
  obtain ⟨roll0, need1, _⟩ := x
  exact (i_StepsOfRoll_e roll0 need1).trans ht)
/-! spec.StepsOfRoll -/
noncomputable def c_s_StepsOfRoll : FnCx := { env := env 21 [(60, S_s_l1In), (57, S_s_cpNeed)] [], body := bodyOf Tryz.f28, res := [.tmp 4, .tmp 5, .tmp 6], ins := [.ro kint, .ro kint], out := [(kint, true), (kint, true), (kbool, true)], T := Int × Int × Bool, fin := fun r => (r.1.1, r.1.2.1, r.1.2.2.1), inj := fun t => ((t.1, t.2.1, t.2.2, ()), ((), (), ())), pts := [], fuel := 400, dr := evDr (env 21 [(60, S_s_l1In), (57, S_s_cpNeed)] []) }
noncomputable def s_StepsOfRoll (roll0 : Int) (need1 : Int) : Option (Int × Int × Bool) :=
  bif !s_l1In roll0 1 2000 then some (0, 0, false)
  else
    bif !s_cpNeed need1 then some (0, 0, false)
    else bif need1 == 0 then none else bif need1 == 0 then none else some (IntKind.wrap IntKind.i64 (Int.tdiv roll0 need1), Int.tmod roll0 need1, true)
theorem s_StepsOfRoll_e (roll0 : Int) (need1 : Int) : c_s_StepsOfRoll.start c_s_StepsOfRoll.L (roll0, need1, ()) = s_StepsOfRoll roll0 need1 := by kernel_rfl
noncomputable def F_s_StepsOfRoll : Ins c_s_StepsOfRoll.ins → Option (Int × Int × Bool) := fun x => s_StepsOfRoll x.1 x.2.1
noncomputable def S_s_StepsOfRoll : FSpec := mkF c_s_StepsOfRoll.env.pre c_s_StepsOfRoll.ins c_s_StepsOfRoll.out c_s_StepsOfRoll.inj F_s_StepsOfRoll
theorem h_s_StepsOfRoll : Cert Tryz.prog 28 S_s_StepsOfRoll := FnCx.certF (c := c_s_StepsOfRoll) F_s_StepsOfRoll (tyOk _ _ _) (spOk ⟨h_s_l1In, fun _ _ h => h, ⟨h_s_cpNeed, fun _ _ h => h, trivial⟩⟩) (fun _ _ _ _ _ hs => evDr_ok (tyOk _ _ _) hs follows) Tryz.func28 rfl rfl Tryz.ntmps28 (by kernel_rfl) rfl rfl (fun _ => rfl) trivial (fun x => .inl ⟨c_s_StepsOfRoll.start () x, fun _ => rfl⟩) (fun x t hb ht => by
  obtain ⟨roll0, need1, _⟩ := x
  exact (s_StepsOfRoll_e roll0 need1).trans ht)
/-! impl.sum -/
noncomputable def c_i_sum : FnCx := { env := env 17 [] [], body := bodyOf Tryz.f59, res := [.tmp 2], ins := [.ro kSint], out := [(kint, true)], T := Int, fin := fun r => r.1.1, inj := fun t => ((t, ()), ((), ())), pts := [([.inLoop [1, 1, 0, 1, 0, 0], .inBlock 0, .code [1, 1, 1]], Shape.mk [Bs.row kint 3 false] [(3, Ss.one (Cs.sc kint)), (6, Ss.one (Cs.sl 0)), (7, Ss.one (Cs.sc kint)), (8, Ss.one (Cs.sc kint))] [Ss.one (Cs.any)])], fuel := 400, dr := noDr }
noncomputable def i_sum_t1 (g1 : List (Int) → Int → Int → Int → Option (Int)) (r0 : List (Int)) (n3 : Int) (s7 : Int) (s8 : Int) : Option Int :=
  bif decide (s8 < s7) then
    bif decide (0 ≤ s8) then
      bif decide (s8 < (↑(List.length r0) : Int)) then
        g1 r0 (IntKind.wrap IntKind.i64 (n3 + rdk kint r0 s8)) s7 (IntKind.wrap IntKind.i64 (s8 + 1))
      else none
    else none
  else some n3
noncomputable def i_sum_t0 (g1 : List (Int) → Int → Int → Int → Option (Int)) (l0 : List Int) : Option Int :=
  g1 l0 0 (↑(List.length l0) : Int) 0
theorem i_sum_ts : Tails c_i_sum.pts c_i_sum.round :=
  ⟨fun s => by
    obtain ⟨⟨r0, _⟩, ⟨n3, _, s7, s8, _⟩, ⟨_, _⟩⟩ := s
    refine Tail.eq (Y := fun g => i_sum_t1 (fun r0 n3 s7 s8 => g.1 ((r0, ()), (n3, (), s7, s8, ()), ((), ()))) r0 n3 s7 s8) ?_ (fun g => by kernel_rfl)
    simp only [i_sum_t1]; repeat (first | exact Tail.const _ | exact Tail.here _ | exact Tail.there (Tail.here _) | exact Tail.there (Tail.there (Tail.here _)) | exact Tail.there (Tail.there (Tail.there (Tail.here _))) | exact Tail.there (Tail.there (Tail.there (Tail.there (Tail.here _)))) | exact Tail.there (Tail.there (Tail.there (Tail.there (Tail.there (Tail.here _))))) | apply Tail.cond | (apply Tail.bind; intro _)), trivial⟩
theorem i_sum_hs : ∀ x, Tail c_i_sum.pts (fun g => c_i_sum.start g x) := fun x => by
    obtain ⟨l0, _⟩ := x
    refine Tail.eq (Y := fun g => i_sum_t0 (fun r0 n3 s7 s8 => g.1 ((r0, ()), (n3, (), s7, s8, ()), ((), ()))) l0) ?_ (fun g => by kernel_rfl)
    simp only [i_sum_t0]; repeat (first | exact Tail.const _ | exact Tail.here _ | exact Tail.there (Tail.here _) | exact Tail.there (Tail.there (Tail.here _)) | exact Tail.there (Tail.there (Tail.there (Tail.here _))) | exact Tail.there (Tail.there (Tail.there (Tail.there (Tail.here _)))) | exact Tail.there (Tail.there (Tail.there (Tail.there (Tail.there (Tail.here _))))) | apply Tail.cond | (apply Tail.bind; intro _))
noncomputable def i_sum_L1 (r0 : List (Int)) (n3 : Int) (s7 : Int) (s8 : Int) : Option Int := c_i_sum.L.1 ((r0, ()), (n3, (), s7, s8, ()), ((), ()))
theorem i_sum_u1 (r0 : List (Int)) (n3 : Int) (s7 : Int) (s8 : Int) : i_sum_L1 r0 n3 s7 s8 = i_sum_t1 i_sum_L1 r0 n3 s7 s8 :=
  (congrArg (fun g => g.1 ((r0, ()), (n3, (), s7, s8, ()), ((), ()))) (FnCx.L_eq i_sum_ts)).trans (by kernel_rfl)
noncomputable def i_sum (l0 : List Int) : Option Int := i_sum_t0 i_sum_L1 l0
theorem i_sum_e (l0 : List Int) : c_i_sum.start c_i_sum.L (l0, ()) = i_sum l0 := by kernel_rfl
noncomputable def F_i_sum : Ins c_i_sum.ins → Option Int := fun x => i_sum x.1
noncomputable def S_i_sum : FSpec := mkF c_i_sum.env.pre c_i_sum.ins c_i_sum.out c_i_sum.inj F_i_sum
theorem h_i_sum : Cert Tryz.prog 59 S_i_sum := FnCx.certF (c := c_i_sum) F_i_sum (tyOk _ _ _) (spOk trivial) (fun _ _ _ _ _ hs => noDr_ok) Tryz.func59 rfl rfl Tryz.ntmps59 (by kernel_rfl) rfl rfl (fun _ => rfl) i_sum_ts i_sum_hs (fun x t hb ht => by
  obtain ⟨l0, _⟩ := x
  exact (i_sum_e l0).trans ht)
/-! impl.RestOfRolls -/
noncomputable def c_i_RestOfRolls : FnCx := { env := env 22 [(16, S_i_AreRolls), (49, S_i_isNeed), (59, S_i_sum), (50, S_i_covers)] [], body := bodyOf Tryz.f22, res := [.tmp 4, .tmp 5], ins := [.ro kSint, .ro kint], out := [(kint, true), (kbool, true)], T := Int × Bool, fin := fun r => (r.1.1, r.1.2.1), inj := fun t => ((t.1, t.2, ()), ((), (), ())), pts := [], fuel := 400, dr := noDr }
noncomputable def i_RestOfRolls (rolls0 : List Int) (need1 : Int) : Option (Int × Bool) :=
  bif !i_AreRolls rolls0 then some (0, false)
  else
    bif !i_isNeed need1 then some (0, false)
    else
      Option.bind (i_sum rolls0) fun r =>
        Option.bind (i_covers rolls0 need1) fun r_1 => some (IntKind.wrap IntKind.i64 (r - IntKind.wrap IntKind.i64 (need1 * r_1)), true)
theorem i_RestOfRolls_e (rolls0 : List Int) (need1 : Int) : c_i_RestOfRolls.start c_i_RestOfRolls.L (rolls0, need1, ()) = i_RestOfRolls rolls0 need1 := by kernel_rfl
noncomputable def F_i_RestOfRolls : Ins c_i_RestOfRolls.ins → Option (Int × Bool) := fun x => i_RestOfRolls x.1 x.2.1
noncomputable def S_i_RestOfRolls : FSpec := mkF c_i_RestOfRolls.env.pre c_i_RestOfRolls.ins c_i_RestOfRolls.out c_i_RestOfRolls.inj F_i_RestOfRolls
theorem h_i_RestOfRolls : Cert Tryz.prog 22 S_i_RestOfRolls := FnCx.certF (c := c_i_RestOfRolls) F_i_RestOfRolls (tyOk _ _ _) (spOk ⟨h_i_AreRolls, fun _ _ h => h, ⟨h_i_isNeed, fun _ _ h => h, ⟨h_i_sum, fun _ _ h => h, ⟨h_i_covers, fun _ _ h => h, trivial⟩⟩⟩⟩) (fun _ _ _ _ _ hs => noDr_ok) Tryz.func22 rfl rfl Tryz.ntmps22 (by kernel_rfl) rfl rfl (fun _ => rfl) trivial (fun x => .inl ⟨c_i_RestOfRolls.start () x, fun _ => rfl⟩) (fun x t hb ht => by
  obtain ⟨rolls0, need1, _⟩ := x
  exact (i_RestOfRolls_e rolls0 need1).trans ht)
/-! spec.RestOfRolls -/
noncomputable def c_s_RestOfRolls : FnCx := { env := env 30 [(55, S_s_cpRolls), (57, S_s_cpNeed)] [], body := bodyOf Tryz.f23, res := [.tmp 4, .tmp 5], ins := [.ro kSint, .ro kint], out := [(kint, true), (kbool, true)], T := Int × Bool, fin := fun r => (r.1.1, r.1.2.1), inj := fun t => ((t.1, t.2, ()), ((), (), ())), pts := [([.inLoop [1, 1, 1, 0, 1, 0, 0], .inBlock 0, .code [1, 1, 1, 1]], Shape.mk [Bs.row kint 3 false] [(1, Ss.one (Cs.sc kint)), (6, Ss.one (Cs.sc kint)), (17, Ss.one (Cs.sl 0)), (18, Ss.one (Cs.sc kint)), (19, Ss.one (Cs.sc kint))] [Ss.one (Cs.any), Ss.one (Cs.any)])], fuel := 400, dr := noDr }
noncomputable def s_RestOfRolls_t1 (g1 : List (Int) → Int → Int → Int → Int → Option (Int × Bool)) (r0 : List (Int)) (need1 : Int) (sum6 : Int) (s18 : Int) (s19 : Int) : Option (Int × Bool) :=
  bif decide (s19 < s18) then
    bif decide (0 ≤ s19) then
      bif decide (s19 < (↑(List.length r0) : Int)) then
        bif need1 == 0 then none
        else g1 r0 need1 (IntKind.wrap IntKind.i64 (sum6 + Int.tmod (rdk kint r0 s19) need1)) s18 (IntKind.wrap IntKind.i64 (s19 + 1))
      else none
    else none
  else some (sum6, true)
noncomputable def s_RestOfRolls_t0 (g1 : List (Int) → Int → Int → Int → Int → Option (Int × Bool)) (rolls0 : List Int) (need1 : Int) : Option (Int × Bool) :=
  bif !s_cpRolls rolls0 then some (0, false) else bif !s_cpNeed need1 then some (0, false) else g1 rolls0 need1 0 (↑(List.length rolls0) : Int) 0
theorem s_RestOfRolls_ts : Tails c_s_RestOfRolls.pts c_s_RestOfRolls.round :=
  ⟨fun s => by
    obtain ⟨⟨r0, _⟩, ⟨need1, sum6, _, s18, s19, _⟩, ⟨_, _, _⟩⟩ := s
    refine Tail.eq (Y := fun g => s_RestOfRolls_t1 (fun r0 need1 sum6 s18 s19 => g.1 ((r0, ()), (need1, sum6, (), s18, s19, ()), ((), (), ()))) r0 need1 sum6 s18 s19) ?_ (fun g => by kernel_rfl)
    simp only [s_RestOfRolls_t1]; repeat (first | exact Tail.const _ | exact Tail.here _ | exact Tail.there (Tail.here _) | exact Tail.there (Tail.there (Tail.here _)) | exact Tail.there (Tail.there (Tail.there (Tail.here _))) | exact Tail.there (Tail.there (Tail.there (Tail.there (Tail.here _)))) | exact Tail.there (Tail.there (Tail.there (Tail.there (Tail.there (Tail.here _))))) | apply Tail.cond | (apply Tail.bind; intro _)), trivial⟩
theorem s_RestOfRolls_hs : ∀ x, Tail c_s_RestOfRolls.pts (fun g => c_s_RestOfRolls.start g x) := fun x => by
    obtain ⟨rolls0, need1, _⟩ := x
    refine Tail.eq (Y := fun g => s_RestOfRolls_t0 (fun r0 need1 sum6 s18 s19 => g.1 ((r0, ()), (need1, sum6, (), s18, s19, ()), ((), (), ()))) rolls0 need1) ?_ (fun g => by kernel_rfl)
    simp only [s_RestOfRolls_t0]; repeat (first | exact Tail.const _ | exact Tail.here _ | exact Tail.there (Tail.here _) | exact Tail.there (Tail.there (Tail.here _)) | exact Tail.there (Tail.there (Tail.there (Tail.here _))) | exact Tail.there (Tail.there (Tail.there (Tail.there (Tail.here _)))) | exact Tail.there (Tail.there (Tail.there (Tail.there (Tail.there (Tail.here _))))) | apply Tail.cond | (apply Tail.bind; intro _))
noncomputable def s_RestOfRolls_L1 (r0 : List (Int)) (need1 : Int) (sum6 : Int) (s18 : Int) (s19 : Int) : Option (Int × Bool) := c_s_RestOfRolls.L.1 ((r0, ()), (need1, sum6, (), s18, s19, ()), ((), (), ()))
theorem s_RestOfRolls_u1 (r0 : List (Int)) (need1 : Int) (sum6 : Int) (s18 : Int) (s19 : Int) : s_RestOfRolls_L1 r0 need1 sum6 s18 s19 = s_RestOfRolls_t1 s_RestOfRolls_L1 r0 need1 sum6 s18 s19 :=
  (congrArg (fun g => g.1 ((r0, ()), (need1, sum6, (), s18, s19, ()), ((), (), ()))) (FnCx.L_eq s_RestOfRolls_ts)).trans (by kernel_rfl)
noncomputable def s_RestOfRolls (rolls0 : List Int) (need1 : Int) : Option (Int × Bool) := s_RestOfRolls_t0 s_RestOfRolls_L1 rolls0 need1
theorem s_RestOfRolls_e (rolls0 : List Int) (need1 : Int) : c_s_RestOfRolls.start c_s_RestOfRolls.L (rolls0, need1, ()) = s_RestOfRolls rolls0 need1 := by kernel_rfl
noncomputable def F_s_RestOfRolls : Ins c_s_RestOfRolls.ins → Option (Int × Bool) := fun x => s_RestOfRolls x.1 x.2.1
noncomputable def S_s_RestOfRolls : FSpec := mkF c_s_RestOfRolls.env.pre c_s_RestOfRolls.ins c_s_RestOfRolls.out c_s_RestOfRolls.inj F_s_RestOfRolls
theorem h_s_RestOfRolls : Cert Tryz.prog 23 S_s_RestOfRolls := FnCx.certF (c := c_s_RestOfRolls) F_s_RestOfRolls (tyOk _ _ _) (spOk ⟨h_s_cpRolls, fun _ _ h => h, ⟨h_s_cpNeed, fun _ _ h => h, trivial⟩⟩) (fun _ _ _ _ _ hs => noDr_ok) Tryz.func23 rfl rfl Tryz.ntmps23 (by kernel_rfl) rfl rfl (fun _ => rfl) s_RestOfRolls_ts s_RestOfRolls_hs (fun x t hb ht => by
  obtain ⟨rolls0, need1, _⟩ := x
  exact (s_RestOfRolls_e rolls0 need1).trans ht)
/-! laws.wSame -/
noncomputable def c_w_wSame : FnCx := { env := env 26 [] [], body := bodyOf Tryz.f15, res := [.tmp 4], ins := [.ro kSint, .ro kSint], out := [(kbool, true)], T := Bool, fin := fun r => r.1.1, inj := fun t => ((t, ()), ((), (), ())), pts := [([.inLoop [1, 1, 0, 1, 0, 0], .inBlock 0, .code [1, 1, 1]], Shape.mk [Bs.row kint 3 false, Bs.row kint 3 false] [(0, Ss.one (Cs.sl 0)), (1, Ss.one (Cs.sl 1)), (12, Ss.one (Cs.sc kint)), (13, Ss.one (Cs.sc kint))] [Ss.one (Cs.any), Ss.one (Cs.any)])], fuel := 400, dr := evDr (env 26 [] []) }
noncomputable def w_wSame_t1 (g1 : List (Int) → List (Int) → Int → Int → Option (Bool)) (r0 : List (Int)) (r1 : List (Int)) (s12 : Int) (s13 : Int) : Option Bool :=
  bif decide (s13 < s12) then
    bif decide (0 ≤ s13) then
      bif decide (s13 < (↑(List.length r0) : Int)) then
        bif decide (0 ≤ s13) then
          bif decide (s13 < (↑(List.length r1) : Int)) then
            bif rdk kint r0 s13 != rdk kint r1 s13 then some false else g1 r0 r1 s12 (IntKind.wrap IntKind.i64 (s13 + 1))
          else none
        else none
      else none
    else none
  else some true
noncomputable def w_wSame_t0 (g1 : List (Int) → List (Int) → Int → Int → Option (Bool)) (a0 : List Int) (b1 : List Int) : Option Bool :=
  bif (↑(List.length a0) : Int) != (↑(List.length b1) : Int) then some false else g1 a0 b1 (↑(List.length a0) : Int) 0
theorem w_wSame_ts : Tails c_w_wSame.pts c_w_wSame.round :=
  ⟨fun s => by
    obtain ⟨⟨r0, r1, _⟩, ⟨_, _, s12, s13, _⟩, ⟨_, _, _⟩⟩ := s
    refine Tail.eq (Y := fun g => w_wSame_t1 (fun r0 r1 s12 s13 => g.1 ((r0, r1, ()), ((), (), s12, s13, ()), ((), (), ()))) r0 r1 s12 s13) ?_ (fun g => by kernel_rfl)
    simp only [w_wSame_t1]; repeat (first | exact Tail.const _ | exact Tail.here _ | exact Tail.there (Tail.here _) | exact Tail.there (Tail.there (Tail.here _)) | exact Tail.there (Tail.there (Tail.there (Tail.here _))) | exact Tail.there (Tail.there (Tail.there (Tail.there (Tail.here _)))) | exact Tail.there (Tail.there (Tail.there (Tail.there (Tail.there (Tail.here _))))) | apply Tail.cond | (apply Tail.bind; intro _)), trivial⟩
theorem w_wSame_hs : ∀ x, Tail c_w_wSame.pts (fun g => c_w_wSame.start g x) := fun x => by
    obtain ⟨a0, b1, _⟩ := x
    refine Tail.eq (Y := fun g => w_wSame_t0 (fun r0 r1 s12 s13 => g.1 ((r0, r1, ()), ((), (), s12, s13, ()), ((), (), ()))) a0 b1) ?_ (fun g => by kernel_rfl)
    simp only [w_wSame_t0]; repeat (first | exact Tail.const _ | exact Tail.here _ | exact Tail.there (Tail.here _) | exact Tail.there (Tail.there (Tail.here _)) | exact Tail.there (Tail.there (Tail.there (Tail.here _))) | exact Tail.there (Tail.there (Tail.there (Tail.there (Tail.here _)))) | exact Tail.there (Tail.there (Tail.there (Tail.there (Tail.there (Tail.here _))))) | apply Tail.cond | (apply Tail.bind; intro _))
noncomputable def w_wSame_L1 (r0 : List (Int)) (r1 : List (Int)) (s12 : Int) (s13 : Int) : Option Bool := c_w_wSame.L.1 ((r0, r1, ()), ((), (), s12, s13, ()), ((), (), ()))
theorem w_wSame_u1 (r0 : List (Int)) (r1 : List (Int)) (s12 : Int) (s13 : Int) : w_wSame_L1 r0 r1 s12 s13 = w_wSame_t1 w_wSame_L1 r0 r1 s12 s13 :=
  (congrArg (fun g => g.1 ((r0, r1, ()), ((), (), s12, s13, ()), ((), (), ()))) (FnCx.L_eq w_wSame_ts)).trans (by kernel_rfl)
noncomputable def w_wSame (a0 : List Int) (b1 : List Int) : Option Bool := w_wSame_t0 w_wSame_L1 a0 b1
theorem w_wSame_e (a0 : List Int) (b1 : List Int) : c_w_wSame.start c_w_wSame.L (a0, b1, ()) = w_wSame a0 b1 := by kernel_rfl
noncomputable def F_w_wSame : Ins c_w_wSame.ins → Option Bool := fun x => w_wSame x.1 x.2.1
noncomputable def S_w_wSame : FSpec := mkF c_w_wSame.env.pre c_w_wSame.ins c_w_wSame.out c_w_wSame.inj F_w_wSame
theorem h_w_wSame : Cert Tryz.prog 15 S_w_wSame := FnCx.certF (c := c_w_wSame) F_w_wSame (tyOk _ _ _) (spOk trivial) (fun _ _ _ _ _ hs => evDr_ok (tyOk _ _ _) hs follows) Tryz.func15 rfl rfl Tryz.ntmps15 (by kernel_rfl) rfl rfl (fun _ => rfl) w_wSame_ts w_wSame_hs (fun x t hb ht => by
  obtain ⟨a0, b1, _⟩ := x
  exact (w_wSame_e a0 b1).trans ht)
/-! laws.wRises -/
noncomputable def c_w_wRises : FnCx := { env := env 20 [] [], body := bodyOf Tryz.f18, res := [.tmp 2], ins := [.ro kSint], out := [(kbool, true)], T := Bool, fin := fun r => r.1.1, inj := fun t => ((t, ()), ((), ())), pts := [([.inLoop [1, 0, 1, 0, 0], .inBlock 0, .code [1, 1]], Shape.mk [Bs.row kint 3 false] [(0, Ss.one (Cs.sl 0)), (3, Ss.one (Cs.sc kint))] [Ss.one (Cs.any)])], fuel := 400, dr := evDr (env 20 [] []) }
noncomputable def w_wRises_t1 (g1 : List (Int) → Int → Option (Bool)) (r0 : List (Int)) (i3 : Int) : Option Bool :=
  bif decide (i3 < (↑(List.length r0) : Int)) then
    bif decide (0 ≤ IntKind.wrap IntKind.i64 (i3 - 1)) then
      bif decide (IntKind.wrap IntKind.i64 (i3 - 1) < (↑(List.length r0) : Int)) then
        bif decide (0 ≤ i3) then
          bif decide (i3 < (↑(List.length r0) : Int)) then
            bif decide (rdk kint r0 (IntKind.wrap IntKind.i64 (i3 - 1)) ≥ rdk kint r0 i3) then some false
            else g1 r0 (IntKind.wrap IntKind.i64 (i3 + 1))
          else none
        else none
      else none
    else none
  else some true
noncomputable def w_wRises_t0 (g1 : List (Int) → Int → Option (Bool)) (a0 : List Int) : Option Bool :=
  g1 a0 1
theorem w_wRises_ts : Tails c_w_wRises.pts c_w_wRises.round :=
  ⟨fun s => by
    obtain ⟨⟨r0, _⟩, ⟨_, i3, _⟩, ⟨_, _⟩⟩ := s
    refine Tail.eq (Y := fun g => w_wRises_t1 (fun r0 i3 => g.1 ((r0, ()), ((), i3, ()), ((), ()))) r0 i3) ?_ (fun g => by kernel_rfl)
    simp only [w_wRises_t1]; repeat (first | exact Tail.const _ | exact Tail.here _ | exact Tail.there (Tail.here _) | exact Tail.there (Tail.there (Tail.here _)) | exact Tail.there (Tail.there (Tail.there (Tail.here _))) | exact Tail.there (Tail.there (Tail.there (Tail.there (Tail.here _)))) | exact Tail.there (Tail.there (Tail.there (Tail.there (Tail.there (Tail.here _))))) | apply Tail.cond | (apply Tail.bind; intro _)), trivial⟩
theorem w_wRises_hs : ∀ x, Tail c_w_wRises.pts (fun g => c_w_wRises.start g x) := fun x => by
    obtain ⟨a0, _⟩ := x
    refine Tail.eq (Y := fun g => w_wRises_t0 (fun r0 i3 => g.1 ((r0, ()), ((), i3, ()), ((), ()))) a0) ?_ (fun g => by kernel_rfl)
    simp only [w_wRises_t0]; repeat (first | exact Tail.const _ | exact Tail.here _ | exact Tail.there (Tail.here _) | exact Tail.there (Tail.there (Tail.here _)) | exact Tail.there (Tail.there (Tail.there (Tail.here _))) | exact Tail.there (Tail.there (Tail.there (Tail.there (Tail.here _)))) | exact Tail.there (Tail.there (Tail.there (Tail.there (Tail.there (Tail.here _))))) | apply Tail.cond | (apply Tail.bind; intro _))
noncomputable def w_wRises_L1 (r0 : List (Int)) (i3 : Int) : Option Bool := c_w_wRises.L.1 ((r0, ()), ((), i3, ()), ((), ()))
theorem w_wRises_u1 (r0 : List (Int)) (i3 : Int) : w_wRises_L1 r0 i3 = w_wRises_t1 w_wRises_L1 r0 i3 :=
  (congrArg (fun g => g.1 ((r0, ()), ((), i3, ()), ((), ()))) (FnCx.L_eq w_wRises_ts)).trans (by kernel_rfl)
noncomputable def w_wRises (a0 : List Int) : Option Bool := w_wRises_t0 w_wRises_L1 a0
theorem w_wRises_e (a0 : List Int) : c_w_wRises.start c_w_wRises.L (a0, ()) = w_wRises a0 := by kernel_rfl
noncomputable def F_w_wRises : Ins c_w_wRises.ins → Option Bool := fun x => w_wRises x.1
noncomputable def S_w_wRises : FSpec := mkF c_w_wRises.env.pre c_w_wRises.ins c_w_wRises.out c_w_wRises.inj F_w_wRises
theorem h_w_wRises : Cert Tryz.prog 18 S_w_wRises := FnCx.certF (c := c_w_wRises) F_w_wRises (tyOk _ _ _) (spOk trivial) (fun _ _ _ _ _ hs => evDr_ok (tyOk _ _ _) hs follows) Tryz.func18 rfl rfl Tryz.ntmps18 (by kernel_rfl) rfl rfl (fun _ => rfl) w_wRises_ts w_wRises_hs (fun x t hb ht => by
  obtain ⟨a0, _⟩ := x
  exact (w_wRises_e a0).trans ht)
/-! laws.wHas -/
noncomputable def c_w_wHas : FnCx := { env := env 17 [] [], body := bodyOf Tryz.f34, res := [.tmp 4], ins := [.ro kSint, .ro kint], out := [(kbool, true)], T := Bool, fin := fun r => r.1.1, inj := fun t => ((t, ()), ((), (), ())), pts := [([.inLoop [1, 0, 1, 0, 0], .inBlock 0, .code [1, 1]], Shape.mk [Bs.row kint 3 false] [(1, Ss.one (Cs.sc kint)), (7, Ss.one (Cs.sl 0)), (8, Ss.one (Cs.sc kint)), (9, Ss.one (Cs.sc kint))] [Ss.one (Cs.any), Ss.one (Cs.any)])], fuel := 400, dr := noDr }
noncomputable def w_wHas_t1 (g1 : List (Int) → Int → Int → Int → Option (Bool)) (r0 : List (Int)) (n1 : Int) (s8 : Int) (s9 : Int) : Option Bool :=
  bif decide (s9 < s8) then
    bif decide (0 ≤ s9) then
      bif decide (s9 < (↑(List.length r0) : Int)) then
        bif rdk kint r0 s9 == n1 then some true else g1 r0 n1 s8 (IntKind.wrap IntKind.i64 (s9 + 1))
      else none
    else none
  else some false
noncomputable def w_wHas_t0 (g1 : List (Int) → Int → Int → Int → Option (Bool)) (a0 : List Int) (n1 : Int) : Option Bool :=
  g1 a0 n1 (↑(List.length a0) : Int) 0
theorem w_wHas_ts : Tails c_w_wHas.pts c_w_wHas.round :=
  ⟨fun s => by
    obtain ⟨⟨r0, _⟩, ⟨n1, _, s8, s9, _⟩, ⟨_, _, _⟩⟩ := s
    refine Tail.eq (Y := fun g => w_wHas_t1 (fun r0 n1 s8 s9 => g.1 ((r0, ()), (n1, (), s8, s9, ()), ((), (), ()))) r0 n1 s8 s9) ?_ (fun g => by kernel_rfl)
    simp only [w_wHas_t1]; repeat (first | exact Tail.const _ | exact Tail.here _ | exact Tail.there (Tail.here _) | exact Tail.there (Tail.there (Tail.here _)) | exact Tail.there (Tail.there (Tail.there (Tail.here _))) | exact Tail.there (Tail.there (Tail.there (Tail.there (Tail.here _)))) | exact Tail.there (Tail.there (Tail.there (Tail.there (Tail.there (Tail.here _))))) | apply Tail.cond | (apply Tail.bind; intro _)), trivial⟩
theorem w_wHas_hs : ∀ x, Tail c_w_wHas.pts (fun g => c_w_wHas.start g x) := fun x => by
    obtain ⟨a0, n1, _⟩ := x
    refine Tail.eq (Y := fun g => w_wHas_t0 (fun r0 n1 s8 s9 => g.1 ((r0, ()), (n1, (), s8, s9, ()), ((), (), ()))) a0 n1) ?_ (fun g => by kernel_rfl)
    simp only [w_wHas_t0]; repeat (first | exact Tail.const _ | exact Tail.here _ | exact Tail.there (Tail.here _) | exact Tail.there (Tail.there (Tail.here _)) | exact Tail.there (Tail.there (Tail.there (Tail.here _))) | exact Tail.there (Tail.there (Tail.there (Tail.there (Tail.here _)))) | exact Tail.there (Tail.there (Tail.there (Tail.there (Tail.there (Tail.here _))))) | apply Tail.cond | (apply Tail.bind; intro _))
noncomputable def w_wHas_L1 (r0 : List (Int)) (n1 : Int) (s8 : Int) (s9 : Int) : Option Bool := c_w_wHas.L.1 ((r0, ()), (n1, (), s8, s9, ()), ((), (), ()))
theorem w_wHas_u1 (r0 : List (Int)) (n1 : Int) (s8 : Int) (s9 : Int) : w_wHas_L1 r0 n1 s8 s9 = w_wHas_t1 w_wHas_L1 r0 n1 s8 s9 :=
  (congrArg (fun g => g.1 ((r0, ()), (n1, (), s8, s9, ()), ((), (), ()))) (FnCx.L_eq w_wHas_ts)).trans (by kernel_rfl)
noncomputable def w_wHas (a0 : List Int) (n1 : Int) : Option Bool := w_wHas_t0 w_wHas_L1 a0 n1
theorem w_wHas_e (a0 : List Int) (n1 : Int) : c_w_wHas.start c_w_wHas.L (a0, n1, ()) = w_wHas a0 n1 := by kernel_rfl
noncomputable def F_w_wHas : Ins c_w_wHas.ins → Option Bool := fun x => w_wHas x.1 x.2.1
noncomputable def S_w_wHas : FSpec := mkF c_w_wHas.env.pre c_w_wHas.ins c_w_wHas.out c_w_wHas.inj F_w_wHas
theorem h_w_wHas : Cert Tryz.prog 34 S_w_wHas := FnCx.certF (c := c_w_wHas) F_w_wHas (tyOk _ _ _) (spOk trivial) (fun _ _ _ _ _ hs => noDr_ok) Tryz.func34 rfl rfl Tryz.ntmps34 (by kernel_rfl) rfl rfl (fun _ => rfl) w_wHas_ts w_wHas_hs (fun x t hb ht => by
  obtain ⟨a0, n1, _⟩ := x
  exact (w_wHas_e a0 n1).trans ht)
/-! laws.wSum -/
noncomputable def c_w_wSum : FnCx := { env := env 17 [] [], body := bodyOf Tryz.f33, res := [.tmp 2], ins := [.ro kSint], out := [(kint, true)], T := Int, fin := fun r => r.1.1, inj := fun t => ((t, ()), ((), ())), pts := [([.inLoop [1, 1, 0, 1, 0, 0], .inBlock 0, .code [1, 1, 1]], Shape.mk [Bs.row kint 3 false] [(3, Ss.one (Cs.sc kint)), (6, Ss.one (Cs.sl 0)), (7, Ss.one (Cs.sc kint)), (8, Ss.one (Cs.sc kint))] [Ss.one (Cs.any)])], fuel := 400, dr := noDr }
noncomputable def w_wSum_t1 (g1 : List (Int) → Int → Int → Int → Option (Int)) (r0 : List (Int)) (n3 : Int) (s7 : Int) (s8 : Int) : Option Int :=
  bif decide (s8 < s7) then
    bif decide (0 ≤ s8) then
      bif decide (s8 < (↑(List.length r0) : Int)) then
        g1 r0 (IntKind.wrap IntKind.i64 (n3 + rdk kint r0 s8)) s7 (IntKind.wrap IntKind.i64 (s8 + 1))
      else none
    else none
  else some n3
noncomputable def w_wSum_t0 (g1 : List (Int) → Int → Int → Int → Option (Int)) (a0 : List Int) : Option Int :=
  g1 a0 0 (↑(List.length a0) : Int) 0
theorem w_wSum_ts : Tails c_w_wSum.pts c_w_wSum.round :=
  ⟨fun s => by
    obtain ⟨⟨r0, _⟩, ⟨n3, _, s7, s8, _⟩, ⟨_, _⟩⟩ := s
    refine Tail.eq (Y := fun g => w_wSum_t1 (fun r0 n3 s7 s8 => g.1 ((r0, ()), (n3, (), s7, s8, ()), ((), ()))) r0 n3 s7 s8) ?_ (fun g => by kernel_rfl)
    simp only [w_wSum_t1]; repeat (first | exact Tail.const _ | exact Tail.here _ | exact Tail.there (Tail.here _) | exact Tail.there (Tail.there (Tail.here _)) | exact Tail.there (Tail.there (Tail.there (Tail.here _))) | exact Tail.there (Tail.there (Tail.there (Tail.there (Tail.here _)))) | exact Tail.there (Tail.there (Tail.there (Tail.there (Tail.there (Tail.here _))))) | apply Tail.cond | (apply Tail.bind; intro _)), trivial⟩
theorem w_wSum_hs : ∀ x, Tail c_w_wSum.pts (fun g => c_w_wSum.start g x) := fun x => by
    obtain ⟨a0, _⟩ := x
    refine Tail.eq (Y := fun g => w_wSum_t0 (fun r0 n3 s7 s8 => g.1 ((r0, ()), (n3, (), s7, s8, ()), ((), ()))) a0) ?_ (fun g => by kernel_rfl)
    simp only [w_wSum_t0]; repeat (first | exact Tail.const _ | exact Tail.here _ | exact Tail.there (Tail.here _) | exact Tail.there (Tail.there (Tail.here _)) | exact Tail.there (Tail.there (Tail.there (Tail.here _))) | exact Tail.there (Tail.there (Tail.there (Tail.there (Tail.here _)))) | exact Tail.there (Tail.there (Tail.there (Tail.there (Tail.there (Tail.here _))))) | apply Tail.cond | (apply Tail.bind; intro _))
noncomputable def w_wSum_L1 (r0 : List (Int)) (n3 : Int) (s7 : Int) (s8 : Int) : Option Int := c_w_wSum.L.1 ((r0, ()), (n3, (), s7, s8, ()), ((), ()))
theorem w_wSum_u1 (r0 : List (Int)) (n3 : Int) (s7 : Int) (s8 : Int) : w_wSum_L1 r0 n3 s7 s8 = w_wSum_t1 w_wSum_L1 r0 n3 s7 s8 :=
  (congrArg (fun g => g.1 ((r0, ()), (n3, (), s7, s8, ()), ((), ()))) (FnCx.L_eq w_wSum_ts)).trans (by kernel_rfl)
noncomputable def w_wSum (a0 : List Int) : Option Int := w_wSum_t0 w_wSum_L1 a0
theorem w_wSum_e (a0 : List Int) : c_w_wSum.start c_w_wSum.L (a0, ()) = w_wSum a0 := by kernel_rfl
noncomputable def F_w_wSum : Ins c_w_wSum.ins → Option Int := fun x => w_wSum x.1
noncomputable def S_w_wSum : FSpec := mkF c_w_wSum.env.pre c_w_wSum.ins c_w_wSum.out c_w_wSum.inj F_w_wSum
theorem h_w_wSum : Cert Tryz.prog 33 S_w_wSum := FnCx.certF (c := c_w_wSum) F_w_wSum (tyOk _ _ _) (spOk trivial) (fun _ _ _ _ _ hs => noDr_ok) Tryz.func33 rfl rfl Tryz.ntmps33 (by kernel_rfl) rfl rfl (fun _ => rfl) w_wSum_ts w_wSum_hs (fun x t hb ht => by
  obtain ⟨a0, _⟩ := x
  exact (w_wSum_e a0).trans ht)
end Go.Proofs.YtddiigejhjfhdaaGreatDoor.V
