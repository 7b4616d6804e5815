/- Functions of the program, as plain functions. No condition. -/
import Derived.Test.YtgflffacaobkoaaGreatDoorL1
set_option linter.unusedVariables false
set_option linter.unusedSimpArgs false
set_option maxRecDepth 100000
namespace Go.Proofs.YtgflffacaobkoaaGreatDoor.V
open Go Go.Ev Go.Proofs
/-! impl.NeededSteps$1 -/
noncomputable def c_i_NeededSteps_c1 : FnCx := { env := env 18 [] [], body := bodyOf Tryz.f40, res := [.tmp 4], ins := [.ro kint, .rb 22 kSint, .rb 22 kSint], out := [(kbool, true)], T := Bool, fin := fun r => r.1.1, inj := fun t => ((t, ()), ((), (), (), ())), pts := [], fuel := 400, dr := evDr (env 18 [] []) }
noncomputable def i_NeededSteps_c1 (k0 : Int) (x1 : List Int) (x2 : List Int) : Option Bool :=
  bif decide (0 ≤ k0) then
    bif decide (k0 < (↑(List.length (rdk kSint [x1] 0)) : Int)) then
      bif decide (0 ≤ k0) then
        bif decide (k0 < (↑(List.length (rdk kSint [x2] 0)) : Int)) then
          bif decide (0 < (↑(List.length (rdk kSint [x2] 0)) : Int)) then
            some
              (IntKind.wrap IntKind.i64
                  (rdk kint (rdk kSint [x1] 0) k0 * rdk kint (rdk kSint [x2] 0) k0) ==
                rdk kint (rdk kSint [x2] 0) 0)
          else none
        else none
      else none
    else none
  else none
theorem i_NeededSteps_c1_e (k0 : Int) (x1 : List Int) (x2 : List Int) : c_i_NeededSteps_c1.start c_i_NeededSteps_c1.L (k0, x1, x2, ()) = i_NeededSteps_c1 k0 x1 x2 := by kernel_rfl
noncomputable def F_i_NeededSteps_c1 : Ins c_i_NeededSteps_c1.ins → Option Bool := fun x => i_NeededSteps_c1 x.1 x.2.1 x.2.2.1
noncomputable def S_i_NeededSteps_c1 : FSpec := mkF c_i_NeededSteps_c1.env.pre c_i_NeededSteps_c1.ins c_i_NeededSteps_c1.out c_i_NeededSteps_c1.inj F_i_NeededSteps_c1
theorem h_i_NeededSteps_c1 : Cert Tryz.prog 40 S_i_NeededSteps_c1 := FnCx.certF (c := c_i_NeededSteps_c1) F_i_NeededSteps_c1 (tyOk _ _ _) (spOk trivial) (fun _ _ _ _ _ hs => evDr_ok (tyOk _ _ _) hs follows) Tryz.func40 rfl rfl Tryz.ntmps40 (by kernel_rfl) rfl rfl (fun _ => rfl) trivial (fun x => .inl ⟨c_i_NeededSteps_c1.start () x, fun _ => rfl⟩) (fun x t hb ht => by
  obtain ⟨k0, x1, x2, _⟩ := x
  exact (i_NeededSteps_c1_e k0 x1 x2).trans ht)
/-! (impl.Stairs).those -/
noncomputable def c_i_Stairs_those__i_NeededSteps_c1 : FnCx := { env := env 22 [(40, S_i_NeededSteps_c1)] [], body := bodyOf Tryz.f39, res := [.tmp 4], ins := [.ro kStairs, .fr 40 [(22, kSint), (22, kSint)]], out := [(kSint, true)], T := List Int, fin := fun r => r.1.1, inj := fun t => ((t, ()), ((), (), ())), pts := [([.inLoop [1, 1, 0, 1, 0, 0], .inBlock 0, .code [1, 1, 1]], Shape.mk [Bs.row kSint 22 false, Bs.row kSint 22 false, Bs.box 24 [Cs.sc kint, Cs.sl 4, Cs.sl 5], Bs.row kint 3 true, Bs.row kint 3 false, Bs.row kint 3 false] [(1, Ss.fn 40 [Cs.ep 0 1, Cs.ep 1 1]), (2, Ss.one (Cs.ptr 2 0)), (5, Ss.one (Cs.sl 3)), (6, Ss.one (Cs.sc kint))] [Ss.one (Cs.any), Ss.one (Cs.any)])], fuel := 400, dr := noDr }
noncomputable def i_Stairs_those__i_NeededSteps_c1_t1 (g1 : List (List (Int)) → List (List (Int)) → Int → List (Int) → List (Int) → List (Int) → Int → Option (List Int)) (r0 : List (List (Int))) (r1 : List (List (Int))) (b2_0 : Int) (r3 : List (Int)) (r4 : List (Int)) (r5 : List (Int)) (k6 : Int) : Option (List Int) :=
  bif decide (k6 ≤ b2_0) then
    Option.bind (i_NeededSteps_c1 k6 (rdk kSint r0 0) (rdk kSint r1 0)) fun r =>
      bif r then bif Nat.ble (List.length r3 + 1) 4294967296 then g1 r0 r1 b2_0 (r3 ++ [k6]) r4 r5 (IntKind.wrap IntKind.i64 (k6 + 1)) else none
      else g1 r0 r1 b2_0 r3 r4 r5 (IntKind.wrap IntKind.i64 (k6 + 1))
  else some r3
noncomputable def i_Stairs_those__i_NeededSteps_c1_t0 (g1 : List (List (Int)) → List (List (Int)) → Int → List (Int) → List (Int) → List (Int) → Int → Option (List Int)) (s0_Steps : Int) (s0_Strides : List Int) (s0_Broken : List Int) (holds1_0 : List Int) (holds1_1 : List Int) : Option (List Int) :=
  g1 [holds1_0] [holds1_1] s0_Steps [] s0_Strides s0_Broken 1
theorem i_Stairs_those__i_NeededSteps_c1_ts : Tails c_i_Stairs_those__i_NeededSteps_c1.pts c_i_Stairs_those__i_NeededSteps_c1.round :=
  ⟨fun s => by
    obtain ⟨⟨r0, r1, ⟨b2_0, _, _, _⟩, r3, r4, r5, _⟩, ⟨⟨_, _, _⟩, _, _, k6, _⟩, ⟨_, _, _⟩⟩ := s
    refine Tail.eq (Y := fun g => i_Stairs_those__i_NeededSteps_c1_t1 (fun r0 r1 b2_0 r3 r4 r5 k6 => g.1 ((r0, r1, (b2_0, (), (), ()), r3, r4, r5, ()), (((), (), ()), (), (), k6, ()), ((), (), ()))) r0 r1 b2_0 r3 r4 r5 k6) ?_ (fun g => by kernel_rfl)
    simp only [i_Stairs_those__i_NeededSteps_c1_t1]; repeat (first | exact Tail.const _ | exact Tail.here _ | exact Tail.there (Tail.here _) | exact Tail.there (Tail.there (Tail.here _)) | exact Tail.there (Tail.there (Tail.there (Tail.here _))) | exact Tail.there (Tail.there (Tail.there (Tail.there (Tail.here _)))) | exact Tail.there (Tail.there (Tail.there (Tail.there (Tail.there (Tail.here _))))) | apply Tail.cond | (apply Tail.bind; intro _)), trivial⟩
theorem i_Stairs_those__i_NeededSteps_c1_hs : ∀ x, Tail c_i_Stairs_those__i_NeededSteps_c1.pts (fun g => c_i_Stairs_those__i_NeededSteps_c1.start g x) := fun x => by
    obtain ⟨⟨s0_Steps, s0_Strides, s0_Broken⟩, ⟨holds1_0, holds1_1, _⟩, _⟩ := x
    refine Tail.eq (Y := fun g => i_Stairs_those__i_NeededSteps_c1_t0 (fun r0 r1 b2_0 r3 r4 r5 k6 => g.1 ((r0, r1, (b2_0, (), (), ()), r3, r4, r5, ()), (((), (), ()), (), (), k6, ()), ((), (), ()))) s0_Steps s0_Strides s0_Broken holds1_0 holds1_1) ?_ (fun g => by kernel_rfl)
    simp only [i_Stairs_those__i_NeededSteps_c1_t0]; repeat (first | exact Tail.const _ | exact Tail.here _ | exact Tail.there (Tail.here _) | exact Tail.there (Tail.there (Tail.here _)) | exact Tail.there (Tail.there (Tail.there (Tail.here _))) | exact Tail.there (Tail.there (Tail.there (Tail.there (Tail.here _)))) | exact Tail.there (Tail.there (Tail.there (Tail.there (Tail.there (Tail.here _))))) | apply Tail.cond | (apply Tail.bind; intro _))
noncomputable def i_Stairs_those__i_NeededSteps_c1_L1 (r0 : List (List (Int))) (r1 : List (List (Int))) (b2_0 : Int) (r3 : List (Int)) (r4 : List (Int)) (r5 : List (Int)) (k6 : Int) : Option (List Int) := c_i_Stairs_those__i_NeededSteps_c1.L.1 ((r0, r1, (b2_0, (), (), ()), r3, r4, r5, ()), (((), (), ()), (), (), k6, ()), ((), (), ()))
theorem i_Stairs_those__i_NeededSteps_c1_u1 (r0 : List (List (Int))) (r1 : List (List (Int))) (b2_0 : Int) (r3 : List (Int)) (r4 : List (Int)) (r5 : List (Int)) (k6 : Int) : i_Stairs_those__i_NeededSteps_c1_L1 r0 r1 b2_0 r3 r4 r5 k6 = i_Stairs_those__i_NeededSteps_c1_t1 i_Stairs_those__i_NeededSteps_c1_L1 r0 r1 b2_0 r3 r4 r5 k6 :=
  (congrArg (fun g => g.1 ((r0, r1, (b2_0, (), (), ()), r3, r4, r5, ()), (((), (), ()), (), (), k6, ()), ((), (), ()))) (FnCx.L_eq i_Stairs_those__i_NeededSteps_c1_ts)).trans (by kernel_rfl)
noncomputable def i_Stairs_those__i_NeededSteps_c1 (s0_Steps : Int) (s0_Strides : List Int) (s0_Broken : List Int) (holds1_0 : List Int) (holds1_1 : List Int) : Option (List Int) := i_Stairs_those__i_NeededSteps_c1_t0 i_Stairs_those__i_NeededSteps_c1_L1 s0_Steps s0_Strides s0_Broken holds1_0 holds1_1
theorem i_Stairs_those__i_NeededSteps_c1_e (s0_Steps : Int) (s0_Strides : List Int) (s0_Broken : List Int) (holds1_0 : List Int) (holds1_1 : List Int) : c_i_Stairs_those__i_NeededSteps_c1.start c_i_Stairs_those__i_NeededSteps_c1.L ((s0_Steps, s0_Strides, s0_Broken), (holds1_0, holds1_1, ()), ()) = i_Stairs_those__i_NeededSteps_c1 s0_Steps s0_Strides s0_Broken holds1_0 holds1_1 := by kernel_rfl
noncomputable def F_i_Stairs_those__i_NeededSteps_c1 : Ins c_i_Stairs_those__i_NeededSteps_c1.ins → Option (List Int) := fun x => i_Stairs_those__i_NeededSteps_c1 x.1.1 x.1.2.1 x.1.2.2 x.2.1.1 x.2.1.2.1
noncomputable def S_i_Stairs_those__i_NeededSteps_c1 : FSpec := mkF c_i_Stairs_those__i_NeededSteps_c1.env.pre c_i_Stairs_those__i_NeededSteps_c1.ins c_i_Stairs_those__i_NeededSteps_c1.out c_i_Stairs_those__i_NeededSteps_c1.inj F_i_Stairs_those__i_NeededSteps_c1
theorem h_i_Stairs_those__i_NeededSteps_c1 : Cert Tryz.prog 39 S_i_Stairs_those__i_NeededSteps_c1 := FnCx.certF (c := c_i_Stairs_those__i_NeededSteps_c1) F_i_Stairs_those__i_NeededSteps_c1 (tyOk _ _ _) (spOk ⟨h_i_NeededSteps_c1, fun _ _ h => h, trivial⟩) (fun _ _ _ _ _ hs => noDr_ok) Tryz.func39 rfl rfl Tryz.ntmps39 (by kernel_rfl) rfl rfl (fun _ => rfl) i_Stairs_those__i_NeededSteps_c1_ts i_Stairs_those__i_NeededSteps_c1_hs (fun x t hb ht => by
  obtain ⟨⟨s0_Steps, s0_Strides, s0_Broken⟩, ⟨holds1_0, holds1_1, _⟩, _⟩ := x
  exact (i_Stairs_those__i_NeededSteps_c1_e s0_Steps s0_Strides s0_Broken holds1_0 holds1_1).trans ht)
/-! impl.NeededSteps -/
noncomputable def c_i_NeededSteps : FnCx := { env := env 20 [(19, S_i_AreStairs), (37, S_i_Stairs_down), (38, S_i_Stairs_up), (39, S_i_Stairs_those__i_NeededSteps_c1)] [], body := bodyOf Tryz.f5, res := [.tmp 2, .tmp 3], ins := [.ro kStairs], out := [(kSint, true), (kbool, true)], T := List Int × Bool, fin := fun r => (r.1.1, r.1.2.1), inj := fun t => ((t.1, t.2, ()), ((), ())), pts := [], fuel := 400, dr := evDr (env 20 [(19, S_i_AreStairs), (37, S_i_Stairs_down), (38, S_i_Stairs_up), (39, S_i_Stairs_those__i_NeededSteps_c1)] []) }
noncomputable def i_NeededSteps (s0_Steps : Int) (s0_Strides : List Int) (s0_Broken : List Int) : Option (List Int × Bool) :=
  bif !i_AreStairs s0_Steps s0_Strides s0_Broken then some ([], false)
  else
    Option.bind (i_Stairs_down s0_Steps s0_Strides s0_Broken) fun r =>
      Option.bind (i_Stairs_up s0_Steps s0_Strides s0_Broken) fun r_1 =>
        bif decide (0 < (↑(List.length r_1) : Int)) then
          bif rdk kint r_1 0 == 0 then some ([], false)
          else Option.bind (i_Stairs_those__i_NeededSteps_c1 s0_Steps s0_Strides s0_Broken r r_1) fun r => some (r, true)
        else none
theorem i_NeededSteps_e (s0_Steps : Int) (s0_Strides : List Int) (s0_Broken : List Int) : c_i_NeededSteps.start c_i_NeededSteps.L ((s0_Steps, s0_Strides, s0_Broken), ()) = i_NeededSteps s0_Steps s0_Strides s0_Broken := by kernel_rfl
noncomputable def F_i_NeededSteps : Ins c_i_NeededSteps.ins → Option (List Int × Bool) := fun x => i_NeededSteps x.1.1 x.1.2.1 x.1.2.2
noncomputable def S_i_NeededSteps : FSpec := mkF c_i_NeededSteps.env.pre c_i_NeededSteps.ins c_i_NeededSteps.out c_i_NeededSteps.inj F_i_NeededSteps
theorem h_i_NeededSteps : Cert Tryz.prog 5 S_i_NeededSteps := FnCx.certF (c := c_i_NeededSteps) F_i_NeededSteps (tyOk _ _ _) (spOk ⟨h_i_AreStairs, fun _ _ h => h, ⟨h_i_Stairs_down, fun _ _ h => h, ⟨h_i_Stairs_up, fun _ _ h => h, ⟨h_i_Stairs_those__i_NeededSteps_c1, fun _ _ h => h, trivial⟩⟩⟩⟩) (fun _ _ _ _ _ hs => evDr_ok (tyOk _ _ _) hs follows) Tryz.func5 rfl rfl Tryz.ntmps5 (by kernel_rfl) rfl rfl (fun _ => rfl) trivial (fun x => .inl ⟨c_i_NeededSteps.start () x, fun _ => rfl⟩) (fun x t hb ht => by
  obtain ⟨⟨s0_Steps, s0_Strides, s0_Broken⟩, _⟩ := x
  exact (i_NeededSteps_e s0_Steps s0_Strides s0_Broken).trans ht)
/-! spec.l1Own -/
noncomputable def c_s_l1Own : FnCx := { env := env 6 [] [], body := bodyOf Tryz.f53, res := [.tmp 2], ins := [.ro kSint], out := [(kSint, true)], T := List Int, fin := fun r => r.1.1, inj := fun t => ((t, ()), ((), ())), pts := [], fuel := 400, dr := noDr }
noncomputable def s_l1Own (l0 : List Int) : Option (List Int) :=
  bif Nat.ble (0 + List.length l0) 4294967296 then some ([] ++ l0) else none
theorem s_l1Own_e (l0 : List Int) : c_s_l1Own.start c_s_l1Own.L (l0, ()) = s_l1Own l0 := by kernel_rfl
-- NICE opt
noncomputable def s_l1Own_n (s : List Int) : Option (List Int) := bif decide (s.length ≤ 4294967296) then some s else none
theorem s_l1Own_ok (s : List Int) (hb : BdI c_s_l1Own.ins (s, ())) (t : List Int) (ht : s_l1Own_n s = some t) : s_l1Own s = some t := by
  unfold s_l1Own_n at ht
  cases h : decide (s.length ≤ 4294967296)
  · rw [h] at ht; cases ht
  · rw [h] at ht; cases ht
    have h := of_decide_eq_true h
    unfold s_l1Own
    simp [ble_dec, h]
noncomputable def F_s_l1Own : Ins c_s_l1Own.ins → Option (List Int) := fun x => s_l1Own_n x.1
noncomputable def S_s_l1Own : FSpec := mkF c_s_l1Own.env.pre c_s_l1Own.ins c_s_l1Own.out c_s_l1Own.inj F_s_l1Own
theorem h_s_l1Own : Cert Tryz.prog 53 S_s_l1Own := FnCx.certF (c := c_s_l1Own) F_s_l1Own (tyOk _ _ _) (spOk trivial) (fun _ _ _ _ _ hs => noDr_ok) Tryz.func53 rfl rfl Tryz.ntmps53 (by kernel_rfl) rfl rfl (fun _ => rfl) trivial (fun x => .inl ⟨c_s_l1Own.start () x, fun _ => rfl⟩) (fun x t hb ht => by
  obtain ⟨l0, _⟩ := x
  exact (s_l1Own_e l0).trans (s_l1Own_ok l0 hb t ht))
/-! spec.l1Put -/
noncomputable def c_s_l1Put : FnCx := { env := env 48 [] [], body := bodyOf Tryz.f79, res := [.tmp 4], ins := [.ro kSint, .ro kint], out := [(kSint, true)], T := List Int, fin := fun r => r.1.1, inj := fun t => ((t, ()), ((), (), ())), pts := [([.inLoop [1, 1, 0, 0, 0], .inBlock 0, .code [1, 1, 1]], Shape.mk [Bs.row kint 3 false] [(0, Ss.one (Cs.sl 0)), (1, Ss.one (Cs.sc kint)), (5, Ss.one (Cs.sc kint))] [Ss.one (Cs.any), Ss.one (Cs.any)])], fuel := 400, dr := noDr }
noncomputable def s_l1Put_t1 (g1 : List (Int) → Int → Int → Option (List Int)) (r0 : List (Int)) (n1 : Int) (k5 : Int) : Option (List Int) :=
  bif decide (k5 < (↑(List.length r0) : Int)) then
    bif decide (0 ≤ k5) then
      bif decide (k5 < (↑(List.length r0) : Int)) then
        bif decide (rdk kint r0 k5 < n1) then g1 r0 n1 (IntKind.wrap IntKind.i64 (k5 + 1))
        else
          bif decide (k5 < (↑(List.length r0) : Int)) then
            bif decide (0 ≤ k5) then
              bif decide (k5 < (↑(List.length r0) : Int)) then
                bif rdk kint r0 k5 == n1 then none
                else
                  bif decide (0 ≤ k5) then
                    bif decide (k5 ≤ (↑(List.length r0) : Int)) then
                      bif Nat.ble (0 + List.length (List.take (Int.toNat k5 - Int.toNat 0) (List.drop (Int.toNat 0) r0))) 4294967296 then
                        bif Nat.ble (List.length ([] ++ List.take (Int.toNat k5 - Int.toNat 0) (List.drop (Int.toNat 0) r0)) + 1) 4294967296 then
                          bif decide (0 ≤ k5) then
                            bif decide (k5 ≤ (↑(List.length r0) : Int)) then
                              bif
                                  Nat.ble
                                    (List.length ([] ++ List.take (Int.toNat k5 - Int.toNat 0) (List.drop (Int.toNat 0) r0) ++ [n1]) +
                                      List.length (List.take (Int.toNat (↑(List.length r0) : Int) - Int.toNat k5) (List.drop (Int.toNat k5) r0)))
                                    4294967296 then
                                some
                                  ([] ++ List.take (Int.toNat k5 - Int.toNat 0) (List.drop (Int.toNat 0) r0) ++ [n1] ++
                                    List.take (Int.toNat (↑(List.length r0) : Int) - Int.toNat k5) (List.drop (Int.toNat k5) r0))
                              else none
                            else none
                          else none
                        else none
                      else none
                    else none
                  else none
              else none
            else none
          else
            bif decide (0 ≤ k5) then
              bif decide (k5 ≤ (↑(List.length r0) : Int)) then
                bif Nat.ble (0 + List.length (List.take (Int.toNat k5 - Int.toNat 0) (List.drop (Int.toNat 0) r0))) 4294967296 then
                  bif Nat.ble (List.length ([] ++ List.take (Int.toNat k5 - Int.toNat 0) (List.drop (Int.toNat 0) r0)) + 1) 4294967296 then
                    bif decide (0 ≤ k5) then
                      bif decide (k5 ≤ (↑(List.length r0) : Int)) then
                        bif
                            Nat.ble
                              (List.length ([] ++ List.take (Int.toNat k5 - Int.toNat 0) (List.drop (Int.toNat 0) r0) ++ [n1]) +
                                List.length (List.take (Int.toNat (↑(List.length r0) : Int) - Int.toNat k5) (List.drop (Int.toNat k5) r0)))
                              4294967296 then
                          some
                            ([] ++ List.take (Int.toNat k5 - Int.toNat 0) (List.drop (Int.toNat 0) r0) ++ [n1] ++
                              List.take (Int.toNat (↑(List.length r0) : Int) - Int.toNat k5) (List.drop (Int.toNat k5) r0))
                        else none
                      else none
                    else none
                  else none
                else none
              else none
            else none
      else none
    else none
  else
    bif decide (k5 < (↑(List.length r0) : Int)) then
      bif decide (0 ≤ k5) then
        bif decide (k5 < (↑(List.length r0) : Int)) then
          bif rdk kint r0 k5 == n1 then none
          else
            bif decide (0 ≤ k5) then
              bif decide (k5 ≤ (↑(List.length r0) : Int)) then
                bif Nat.ble (0 + List.length (List.take (Int.toNat k5 - Int.toNat 0) (List.drop (Int.toNat 0) r0))) 4294967296 then
                  bif Nat.ble (List.length ([] ++ List.take (Int.toNat k5 - Int.toNat 0) (List.drop (Int.toNat 0) r0)) + 1) 4294967296 then
                    bif decide (0 ≤ k5) then
                      bif decide (k5 ≤ (↑(List.length r0) : Int)) then
                        bif
                            Nat.ble
                              (List.length ([] ++ List.take (Int.toNat k5 - Int.toNat 0) (List.drop (Int.toNat 0) r0) ++ [n1]) +
                                List.length (List.take (Int.toNat (↑(List.length r0) : Int) - Int.toNat k5) (List.drop (Int.toNat k5) r0)))
                              4294967296 then
                          some
                            ([] ++ List.take (Int.toNat k5 - Int.toNat 0) (List.drop (Int.toNat 0) r0) ++ [n1] ++
                              List.take (Int.toNat (↑(List.length r0) : Int) - Int.toNat k5) (List.drop (Int.toNat k5) r0))
                        else none
                      else none
                    else none
                  else none
                else none
              else none
            else none
        else none
      else none
    else
      bif decide (0 ≤ k5) then
        bif decide (k5 ≤ (↑(List.length r0) : Int)) then
          bif Nat.ble (0 + List.length (List.take (Int.toNat k5 - Int.toNat 0) (List.drop (Int.toNat 0) r0))) 4294967296 then
            bif Nat.ble (List.length ([] ++ List.take (Int.toNat k5 - Int.toNat 0) (List.drop (Int.toNat 0) r0)) + 1) 4294967296 then
              bif decide (0 ≤ k5) then
                bif decide (k5 ≤ (↑(List.length r0) : Int)) then
                  bif
                      Nat.ble
                        (List.length ([] ++ List.take (Int.toNat k5 - Int.toNat 0) (List.drop (Int.toNat 0) r0) ++ [n1]) +
                          List.length (List.take (Int.toNat (↑(List.length r0) : Int) - Int.toNat k5) (List.drop (Int.toNat k5) r0)))
                        4294967296 then
                    some
                      ([] ++ List.take (Int.toNat k5 - Int.toNat 0) (List.drop (Int.toNat 0) r0) ++ [n1] ++
                        List.take (Int.toNat (↑(List.length r0) : Int) - Int.toNat k5) (List.drop (Int.toNat k5) r0))
                  else none
                else none
              else none
            else none
          else none
        else none
      else none
noncomputable def s_l1Put_t0 (g1 : List (Int) → Int → Int → Option (List Int)) (l0 : List Int) (n1 : Int) : Option (List Int) :=
  g1 l0 n1 0
theorem s_l1Put_ts : Tails c_s_l1Put.pts c_s_l1Put.round :=
  ⟨fun s => by
    obtain ⟨⟨r0, _⟩, ⟨_, n1, k5, _⟩, ⟨_, _, _⟩⟩ := s
    refine Tail.eq (Y := fun g => s_l1Put_t1 (fun r0 n1 k5 => g.1 ((r0, ()), ((), n1, k5, ()), ((), (), ()))) r0 n1 k5) ?_ (fun g => by kernel_rfl)
    simp only [s_l1Put_t1]; repeat (first | exact Tail.const _ | exact Tail.here _ | exact Tail.there (Tail.here _) | exact Tail.there (Tail.there (Tail.here _)) | exact Tail.there (Tail.there (Tail.there (Tail.here _))) | exact Tail.there (Tail.there (Tail.there (Tail.there (Tail.here _)))) | exact Tail.there (Tail.there (Tail.there (Tail.there (Tail.there (Tail.here _))))) | apply Tail.cond | (apply Tail.bind; intro _)), trivial⟩
theorem s_l1Put_hs : ∀ x, Tail c_s_l1Put.pts (fun g => c_s_l1Put.start g x) := fun x => by
    obtain ⟨l0, n1, _⟩ := x
    refine Tail.eq (Y := fun g => s_l1Put_t0 (fun r0 n1 k5 => g.1 ((r0, ()), ((), n1, k5, ()), ((), (), ()))) l0 n1) ?_ (fun g => by kernel_rfl)
    simp only [s_l1Put_t0]; repeat (first | exact Tail.const _ | exact Tail.here _ | exact Tail.there (Tail.here _) | exact Tail.there (Tail.there (Tail.here _)) | exact Tail.there (Tail.there (Tail.there (Tail.here _))) | exact Tail.there (Tail.there (Tail.there (Tail.there (Tail.here _)))) | exact Tail.there (Tail.there (Tail.there (Tail.there (Tail.there (Tail.here _))))) | apply Tail.cond | (apply Tail.bind; intro _))
noncomputable def s_l1Put_L1 (r0 : List (Int)) (n1 : Int) (k5 : Int) : Option (List Int) := c_s_l1Put.L.1 ((r0, ()), ((), n1, k5, ()), ((), (), ()))
theorem s_l1Put_u1 (r0 : List (Int)) (n1 : Int) (k5 : Int) : s_l1Put_L1 r0 n1 k5 = s_l1Put_t1 s_l1Put_L1 r0 n1 k5 :=
  (congrArg (fun g => g.1 ((r0, ()), ((), n1, k5, ()), ((), (), ()))) (FnCx.L_eq s_l1Put_ts)).trans (by kernel_rfl)
noncomputable def s_l1Put (l0 : List Int) (n1 : Int) : Option (List Int) := s_l1Put_t0 s_l1Put_L1 l0 n1
theorem s_l1Put_e (l0 : List Int) (n1 : Int) : c_s_l1Put.start c_s_l1Put.L (l0, n1, ()) = s_l1Put l0 n1 := by kernel_rfl
noncomputable def F_s_l1Put : Ins c_s_l1Put.ins → Option (List Int) := fun x => s_l1Put x.1 x.2.1
noncomputable def S_s_l1Put : FSpec := mkF c_s_l1Put.env.pre c_s_l1Put.ins c_s_l1Put.out c_s_l1Put.inj F_s_l1Put
theorem h_s_l1Put : Cert Tryz.prog 79 S_s_l1Put := FnCx.certF (c := c_s_l1Put) F_s_l1Put (tyOk _ _ _) (spOk trivial) (fun _ _ _ _ _ hs => noDr_ok) Tryz.func79 rfl rfl Tryz.ntmps79 (by kernel_rfl) rfl rfl (fun _ => rfl) s_l1Put_ts s_l1Put_hs (fun x t hb ht => by
  obtain ⟨l0, n1, _⟩ := x
  exact (s_l1Put_e l0 n1).trans ht)
/-! spec.clBreak -/
noncomputable def c_s_clBreak : FnCx := { env := env 15 [(53, S_s_l1Own), (79, S_s_l1Put)] [], body := bodyOf Tryz.f44, res := [.cell 4 24], ins := [.ro kStairs, .ro kint], out := [(kStairs, true)], T := (Int × List Int × List Int), fin := fun r => r.1.1, inj := fun t => ((t, ()), ((), (), ())), pts := [], fuel := 400, dr := evDr (env 15 [(53, S_s_l1Own), (79, S_s_l1Put)] []) }
noncomputable def s_clBreak (s0_Steps : Int) (s0_Strides : List Int) (s0_Broken : List Int) (step1 : Int) : Option ((Int × List Int × List Int)) :=
  Option.bind (s_l1Own_n s0_Strides) fun r => Option.bind (s_l1Put s0_Broken step1) fun r_1 => some (s0_Steps, r, r_1)
theorem s_clBreak_e (s0_Steps : Int) (s0_Strides : List Int) (s0_Broken : List Int) (step1 : Int) : c_s_clBreak.start c_s_clBreak.L ((s0_Steps, s0_Strides, s0_Broken), step1, ()) = s_clBreak s0_Steps s0_Strides s0_Broken step1 := by kernel_rfl
noncomputable def F_s_clBreak : Ins c_s_clBreak.ins → Option ((Int × List Int × List Int)) := fun x => s_clBreak x.1.1 x.1.2.1 x.1.2.2 x.2.1
noncomputable def S_s_clBreak : FSpec := mkF c_s_clBreak.env.pre c_s_clBreak.ins c_s_clBreak.out c_s_clBreak.inj F_s_clBreak
theorem h_s_clBreak : Cert Tryz.prog 44 S_s_clBreak := FnCx.certF (c := c_s_clBreak) F_s_clBreak (tyOk _ _ _) (spOk ⟨h_s_l1Own, fun _ _ h => h, ⟨h_s_l1Put, fun _ _ h => h, trivial⟩⟩) (fun _ _ _ _ _ hs => evDr_ok (tyOk _ _ _) hs follows) Tryz.func44 rfl rfl Tryz.ntmps44 (by kernel_rfl) rfl rfl (fun _ => rfl) trivial (fun x => .inl ⟨c_s_clBreak.start () x, fun _ => rfl⟩) (fun x t hb ht => by
  obtain ⟨⟨s0_Steps, s0_Strides, s0_Broken⟩, step1, _⟩ := x
  exact (s_clBreak_e s0_Steps s0_Strides s0_Broken step1).trans ht)
/-! spec.NeededSteps -/
noncomputable def c_s_NeededSteps : FnCx := { env := env 43 [(41, S_s_clGood), (42, S_s_clWays), (43, S_s_clStands), (44, S_s_clBreak)] [], body := bodyOf Tryz.f6, res := [.tmp 2, .tmp 3], ins := [.ro kStairs], out := [(kSint, true), (kbool, true)], T := List Int × Bool, fin := fun r => (r.1.1, r.1.2.1), inj := fun t => ((t.1, t.2, ()), ((), ())), pts := [([.inLoop [1, 1, 1, 0, 1, 0, 0], .inBlock 0, .code [1, 1, 1, 1]], Shape.mk [Bs.box 24 [Cs.sc kint, Cs.sl 2, Cs.sl 3], Bs.row kint 3 true, Bs.row kint 3 false, Bs.row kint 3 false] [(1, Ss.one (Cs.ptr 0 0)), (4, Ss.one (Cs.sl 1)), (5, Ss.one (Cs.sc kint))] [Ss.one (Cs.any)])], fuel := 400, dr := noDr }
noncomputable def s_NeededSteps_t1 (g1 : Int → List (Int) → List (Int) → List (Int) → Int → Option (List Int × Bool)) (b0_0 : Int) (r1 : List (Int)) (r2 : List (Int)) (r3 : List (Int)) (step5 : Int) : Option (List Int × Bool) :=
  bif decide (step5 < b0_0) then
    bif s_clStands b0_0 r2 r3 step5 then
      Option.bind (s_clBreak b0_0 r2 r3 step5) fun r =>
        Option.bind (s_clWays (Prod.fst r) (Prod.fst (Prod.snd r)) (Prod.snd (Prod.snd r))) fun r =>
          bif decide (0 < (↑(List.length r) : Int)) then
            bif rdk kint r 0 == 0 then
              bif Nat.ble (List.length r1 + 1) 4294967296 then g1 b0_0 (r1 ++ [step5]) r2 r3 (IntKind.wrap IntKind.i64 (step5 + 1)) else none
            else g1 b0_0 r1 r2 r3 (IntKind.wrap IntKind.i64 (step5 + 1))
          else none
    else g1 b0_0 r1 r2 r3 (IntKind.wrap IntKind.i64 (step5 + 1))
  else bif Nat.ble (List.length r1 + 1) 4294967296 then some (r1 ++ [b0_0], true) else none
noncomputable def s_NeededSteps_t0 (g1 : Int → List (Int) → List (Int) → List (Int) → Int → Option (List Int × Bool)) (s0_Steps : Int) (s0_Strides : List Int) (s0_Broken : List Int) : Option (List Int × Bool) :=
  bif !s_clGood s0_Steps s0_Strides s0_Broken then some ([], false)
  else
    Option.bind (s_clWays s0_Steps s0_Strides s0_Broken) fun r =>
      bif decide (0 < (↑(List.length r) : Int)) then bif rdk kint r 0 == 0 then some ([], false) else g1 s0_Steps [] s0_Strides s0_Broken 1
      else none
theorem s_NeededSteps_ts : Tails c_s_NeededSteps.pts c_s_NeededSteps.round :=
  ⟨fun s => by
    obtain ⟨⟨⟨b0_0, _, _, _⟩, r1, r2, r3, _⟩, ⟨_, _, step5, _⟩, ⟨_, _⟩⟩ := s
    refine Tail.eq (Y := fun g => s_NeededSteps_t1 (fun b0_0 r1 r2 r3 step5 => g.1 (((b0_0, (), (), ()), r1, r2, r3, ()), ((), (), step5, ()), ((), ()))) b0_0 r1 r2 r3 step5) ?_ (fun g => by kernel_rfl)
    simp only [s_NeededSteps_t1]; repeat (first | exact Tail.const _ | exact Tail.here _ | exact Tail.there (Tail.here _) | exact Tail.there (Tail.there (Tail.here _)) | exact Tail.there (Tail.there (Tail.there (Tail.here _))) | exact Tail.there (Tail.there (Tail.there (Tail.there (Tail.here _)))) | exact Tail.there (Tail.there (Tail.there (Tail.there (Tail.there (Tail.here _))))) | apply Tail.cond | (apply Tail.bind; intro _)), trivial⟩
theorem s_NeededSteps_hs : ∀ x, Tail c_s_NeededSteps.pts (fun g => c_s_NeededSteps.start g x) := fun x => by
    obtain ⟨⟨s0_Steps, s0_Strides, s0_Broken⟩, _⟩ := x
    refine Tail.eq (Y := fun g => s_NeededSteps_t0 (fun b0_0 r1 r2 r3 step5 => g.1 (((b0_0, (), (), ()), r1, r2, r3, ()), ((), (), step5, ()), ((), ()))) s0_Steps s0_Strides s0_Broken) ?_ (fun g => by kernel_rfl)
    simp only [s_NeededSteps_t0]; repeat (first | exact Tail.const _ | exact Tail.here _ | exact Tail.there (Tail.here _) | exact Tail.there (Tail.there (Tail.here _)) | exact Tail.there (Tail.there (Tail.there (Tail.here _))) | exact Tail.there (Tail.there (Tail.there (Tail.there (Tail.here _)))) | exact Tail.there (Tail.there (Tail.there (Tail.there (Tail.there (Tail.here _))))) | apply Tail.cond | (apply Tail.bind; intro _))
noncomputable def s_NeededSteps_L1 (b0_0 : Int) (r1 : List (Int)) (r2 : List (Int)) (r3 : List (Int)) (step5 : Int) : Option (List Int × Bool) := c_s_NeededSteps.L.1 (((b0_0, (), (), ()), r1, r2, r3, ()), ((), (), step5, ()), ((), ()))
theorem s_NeededSteps_u1 (b0_0 : Int) (r1 : List (Int)) (r2 : List (Int)) (r3 : List (Int)) (step5 : Int) : s_NeededSteps_L1 b0_0 r1 r2 r3 step5 = s_NeededSteps_t1 s_NeededSteps_L1 b0_0 r1 r2 r3 step5 :=
  (congrArg (fun g => g.1 (((b0_0, (), (), ()), r1, r2, r3, ()), ((), (), step5, ()), ((), ()))) (FnCx.L_eq s_NeededSteps_ts)).trans (by kernel_rfl)
noncomputable def s_NeededSteps (s0_Steps : Int) (s0_Strides : List Int) (s0_Broken : List Int) : Option (List Int × Bool) := s_NeededSteps_t0 s_NeededSteps_L1 s0_Steps s0_Strides s0_Broken
theorem s_NeededSteps_e (s0_Steps : Int) (s0_Strides : List Int) (s0_Broken : List Int) : c_s_NeededSteps.start c_s_NeededSteps.L ((s0_Steps, s0_Strides, s0_Broken), ()) = s_NeededSteps s0_Steps s0_Strides s0_Broken := by kernel_rfl
noncomputable def F_s_NeededSteps : Ins c_s_NeededSteps.ins → Option (List Int × Bool) := fun x => s_NeededSteps x.1.1 x.1.2.1 x.1.2.2
noncomputable def S_s_NeededSteps : FSpec := mkF c_s_NeededSteps.env.pre c_s_NeededSteps.ins c_s_NeededSteps.out c_s_NeededSteps.inj F_s_NeededSteps
theorem h_s_NeededSteps : Cert Tryz.prog 6 S_s_NeededSteps := FnCx.certF (c := c_s_NeededSteps) F_s_NeededSteps (tyOk _ _ _) (spOk ⟨h_s_clGood, fun _ _ h => h, ⟨h_s_clWays, fun _ _ h => h, ⟨h_s_clStands, fun _ _ h => h, ⟨h_s_clBreak, fun _ _ h => h, trivial⟩⟩⟩⟩) (fun _ _ _ _ _ hs => noDr_ok) Tryz.func6 rfl rfl Tryz.ntmps6 (by kernel_rfl) rfl rfl (fun _ => rfl) s_NeededSteps_ts s_NeededSteps_hs (fun x t hb ht => by
  obtain ⟨⟨s0_Steps, s0_Strides, s0_Broken⟩, _⟩ := x
  exact (s_NeededSteps_e s0_Steps s0_Strides s0_Broken).trans ht)
/-! impl.ReachedSteps$1 -/
noncomputable def c_i_ReachedSteps_c1 : FnCx := { env := env 9 [] [], body := bodyOf Tryz.f45, res := [.tmp 3], ins := [.ro kint, .rb 22 kSint], out := [(kbool, true)], T := Bool, fin := fun r => r.1.1, inj := fun t => ((t, ()), ((), (), ())), pts := [], fuel := 400, dr := noDr }
noncomputable def i_ReachedSteps_c1 (k0 : Int) (x1 : List Int) : Option Bool :=
  bif decide (0 ≤ k0) then bif decide (k0 < (↑(List.length (rdk kSint [x1] 0)) : Int)) then some (decide (rdk kint (rdk kSint [x1] 0) k0 > 0)) else none else none
theorem i_ReachedSteps_c1_e (k0 : Int) (x1 : List Int) : c_i_ReachedSteps_c1.start c_i_ReachedSteps_c1.L (k0, x1, ()) = i_ReachedSteps_c1 k0 x1 := by kernel_rfl
noncomputable def F_i_ReachedSteps_c1 : Ins c_i_ReachedSteps_c1.ins → Option Bool := fun x => i_ReachedSteps_c1 x.1 x.2.1
noncomputable def S_i_ReachedSteps_c1 : FSpec := mkF c_i_ReachedSteps_c1.env.pre c_i_ReachedSteps_c1.ins c_i_ReachedSteps_c1.out c_i_ReachedSteps_c1.inj F_i_ReachedSteps_c1
theorem h_i_ReachedSteps_c1 : Cert Tryz.prog 45 S_i_ReachedSteps_c1 := FnCx.certF (c := c_i_ReachedSteps_c1) F_i_ReachedSteps_c1 (tyOk _ _ _) (spOk trivial) (fun _ _ _ _ _ hs => noDr_ok) Tryz.func45 rfl rfl Tryz.ntmps45 (by kernel_rfl) rfl rfl (fun _ => rfl) trivial (fun x => .inl ⟨c_i_ReachedSteps_c1.start () x, fun _ => rfl⟩) (fun x t hb ht => by
  obtain ⟨k0, x1, _⟩ := x
  exact (i_ReachedSteps_c1_e k0 x1).trans ht)
/-! (impl.Stairs).those -/
noncomputable def c_i_Stairs_those__i_ReachedSteps_c1 : FnCx := { env := env 22 [(45, S_i_ReachedSteps_c1)] [], body := bodyOf Tryz.f39, res := [.tmp 4], ins := [.ro kStairs, .fr 45 [(22, kSint)]], out := [(kSint, true)], T := List Int, fin := fun r => r.1.1, inj := fun t => ((t, ()), ((), (), ())), pts := [([.inLoop [1, 1, 0, 1, 0, 0], .inBlock 0, .code [1, 1, 1]], Shape.mk [Bs.row kSint 22 false, Bs.box 24 [Cs.sc kint, Cs.sl 3, Cs.sl 4], Bs.row kint 3 true, Bs.row kint 3 false, Bs.row kint 3 false] [(1, Ss.fn 45 [Cs.ep 0 1]), (2, Ss.one (Cs.ptr 1 0)), (5, Ss.one (Cs.sl 2)), (6, Ss.one (Cs.sc kint))] [Ss.one (Cs.any), Ss.one (Cs.any)])], fuel := 400, dr := noDr }
noncomputable def i_Stairs_those__i_ReachedSteps_c1_t1 (g1 : List (List (Int)) → Int → List (Int) → List (Int) → List (Int) → Int → Option (List Int)) (r0 : List (List (Int))) (b1_0 : Int) (r2 : List (Int)) (r3 : List (Int)) (r4 : List (Int)) (k6 : Int) : Option (List Int) :=
  bif decide (k6 ≤ b1_0) then
    Option.bind (i_ReachedSteps_c1 k6 (rdk kSint r0 0)) fun r =>
      bif r then bif Nat.ble (List.length r2 + 1) 4294967296 then g1 r0 b1_0 (r2 ++ [k6]) r3 r4 (IntKind.wrap IntKind.i64 (k6 + 1)) else none
      else g1 r0 b1_0 r2 r3 r4 (IntKind.wrap IntKind.i64 (k6 + 1))
  else some r2
noncomputable def i_Stairs_those__i_ReachedSteps_c1_t0 (g1 : List (List (Int)) → Int → List (Int) → List (Int) → List (Int) → Int → Option (List Int)) (s0_Steps : Int) (s0_Strides : List Int) (s0_Broken : List Int) (holds1_0 : List Int) : Option (List Int) :=
  g1 [holds1_0] s0_Steps [] s0_Strides s0_Broken 1
theorem i_Stairs_those__i_ReachedSteps_c1_ts : Tails c_i_Stairs_those__i_ReachedSteps_c1.pts c_i_Stairs_those__i_ReachedSteps_c1.round :=
  ⟨fun s => by
    obtain ⟨⟨r0, ⟨b1_0, _, _, _⟩, r2, r3, r4, _⟩, ⟨⟨_, _⟩, _, _, k6, _⟩, ⟨_, _, _⟩⟩ := s
    refine Tail.eq (Y := fun g => i_Stairs_those__i_ReachedSteps_c1_t1 (fun r0 b1_0 r2 r3 r4 k6 => g.1 ((r0, (b1_0, (), (), ()), r2, r3, r4, ()), (((), ()), (), (), k6, ()), ((), (), ()))) r0 b1_0 r2 r3 r4 k6) ?_ (fun g => by kernel_rfl)
    simp only [i_Stairs_those__i_ReachedSteps_c1_t1]; repeat (first | exact Tail.const _ | exact Tail.here _ | exact Tail.there (Tail.here _) | exact Tail.there (Tail.there (Tail.here _)) | exact Tail.there (Tail.there (Tail.there (Tail.here _))) | exact Tail.there (Tail.there (Tail.there (Tail.there (Tail.here _)))) | exact Tail.there (Tail.there (Tail.there (Tail.there (Tail.there (Tail.here _))))) | apply Tail.cond | (apply Tail.bind; intro _)), trivial⟩
theorem i_Stairs_those__i_ReachedSteps_c1_hs : ∀ x, Tail c_i_Stairs_those__i_ReachedSteps_c1.pts (fun g => c_i_Stairs_those__i_ReachedSteps_c1.start g x) := fun x => by
    obtain ⟨⟨s0_Steps, s0_Strides, s0_Broken⟩, ⟨holds1_0, _⟩, _⟩ := x
    refine Tail.eq (Y := fun g => i_Stairs_those__i_ReachedSteps_c1_t0 (fun r0 b1_0 r2 r3 r4 k6 => g.1 ((r0, (b1_0, (), (), ()), r2, r3, r4, ()), (((), ()), (), (), k6, ()), ((), (), ()))) s0_Steps s0_Strides s0_Broken holds1_0) ?_ (fun g => by kernel_rfl)
    simp only [i_Stairs_those__i_ReachedSteps_c1_t0]; repeat (first | exact Tail.const _ | exact Tail.here _ | exact Tail.there (Tail.here _) | exact Tail.there (Tail.there (Tail.here _)) | exact Tail.there (Tail.there (Tail.there (Tail.here _))) | exact Tail.there (Tail.there (Tail.there (Tail.there (Tail.here _)))) | exact Tail.there (Tail.there (Tail.there (Tail.there (Tail.there (Tail.here _))))) | apply Tail.cond | (apply Tail.bind; intro _))
noncomputable def i_Stairs_those__i_ReachedSteps_c1_L1 (r0 : List (List (Int))) (b1_0 : Int) (r2 : List (Int)) (r3 : List (Int)) (r4 : List (Int)) (k6 : Int) : Option (List Int) := c_i_Stairs_those__i_ReachedSteps_c1.L.1 ((r0, (b1_0, (), (), ()), r2, r3, r4, ()), (((), ()), (), (), k6, ()), ((), (), ()))
theorem i_Stairs_those__i_ReachedSteps_c1_u1 (r0 : List (List (Int))) (b1_0 : Int) (r2 : List (Int)) (r3 : List (Int)) (r4 : List (Int)) (k6 : Int) : i_Stairs_those__i_ReachedSteps_c1_L1 r0 b1_0 r2 r3 r4 k6 = i_Stairs_those__i_ReachedSteps_c1_t1 i_Stairs_those__i_ReachedSteps_c1_L1 r0 b1_0 r2 r3 r4 k6 :=
  (congrArg (fun g => g.1 ((r0, (b1_0, (), (), ()), r2, r3, r4, ()), (((), ()), (), (), k6, ()), ((), (), ()))) (FnCx.L_eq i_Stairs_those__i_ReachedSteps_c1_ts)).trans (by kernel_rfl)
noncomputable def i_Stairs_those__i_ReachedSteps_c1 (s0_Steps : Int) (s0_Strides : List Int) (s0_Broken : List Int) (holds1_0 : List Int) : Option (List Int) := i_Stairs_those__i_ReachedSteps_c1_t0 i_Stairs_those__i_ReachedSteps_c1_L1 s0_Steps s0_Strides s0_Broken holds1_0
theorem i_Stairs_those__i_ReachedSteps_c1_e (s0_Steps : Int) (s0_Strides : List Int) (s0_Broken : List Int) (holds1_0 : List Int) : c_i_Stairs_those__i_ReachedSteps_c1.start c_i_Stairs_those__i_ReachedSteps_c1.L ((s0_Steps, s0_Strides, s0_Broken), (holds1_0, ()), ()) = i_Stairs_those__i_ReachedSteps_c1 s0_Steps s0_Strides s0_Broken holds1_0 := by kernel_rfl
noncomputable def F_i_Stairs_those__i_ReachedSteps_c1 : Ins c_i_Stairs_those__i_ReachedSteps_c1.ins → Option (List Int) := fun x => i_Stairs_those__i_ReachedSteps_c1 x.1.1 x.1.2.1 x.1.2.2 x.2.1.1
noncomputable def S_i_Stairs_those__i_ReachedSteps_c1 : FSpec := mkF c_i_Stairs_those__i_ReachedSteps_c1.env.pre c_i_Stairs_those__i_ReachedSteps_c1.ins c_i_Stairs_those__i_ReachedSteps_c1.out c_i_Stairs_those__i_ReachedSteps_c1.inj F_i_Stairs_those__i_ReachedSteps_c1
theorem h_i_Stairs_those__i_ReachedSteps_c1 : Cert Tryz.prog 39 S_i_Stairs_those__i_ReachedSteps_c1 := FnCx.certF (c := c_i_Stairs_those__i_ReachedSteps_c1) F_i_Stairs_those__i_ReachedSteps_c1 (tyOk _ _ _) (spOk ⟨h_i_ReachedSteps_c1, fun _ _ h => h, trivial⟩) (fun _ _ _ _ _ hs => noDr_ok) Tryz.func39 rfl rfl Tryz.ntmps39 (by kernel_rfl) rfl rfl (fun _ => rfl) i_Stairs_those__i_ReachedSteps_c1_ts i_Stairs_those__i_ReachedSteps_c1_hs (fun x t hb ht => by
  obtain ⟨⟨s0_Steps, s0_Strides, s0_Broken⟩, ⟨holds1_0, _⟩, _⟩ := x
  exact (i_Stairs_those__i_ReachedSteps_c1_e s0_Steps s0_Strides s0_Broken holds1_0).trans ht)
/-! impl.ReachedSteps -/
noncomputable def c_i_ReachedSteps : FnCx := { env := env 13 [(19, S_i_AreStairs), (37, S_i_Stairs_down), (39, S_i_Stairs_those__i_ReachedSteps_c1)] [], body := bodyOf Tryz.f7, res := [.tmp 2, .tmp 3], ins := [.ro kStairs], out := [(kSint, true), (kbool, true)], T := List Int × Bool, fin := fun r => (r.1.1, r.1.2.1), inj := fun t => ((t.1, t.2, ()), ((), ())), pts := [], fuel := 400, dr := noDr }
noncomputable def i_ReachedSteps (s0_Steps : Int) (s0_Strides : List Int) (s0_Broken : List Int) : Option (List Int × Bool) :=
  bif !i_AreStairs s0_Steps s0_Strides s0_Broken then some ([], false)
  else
    Option.bind (i_Stairs_down s0_Steps s0_Strides s0_Broken) fun r =>
      Option.bind (i_Stairs_those__i_ReachedSteps_c1 s0_Steps s0_Strides s0_Broken r) fun r => some (r, true)
theorem i_ReachedSteps_e (s0_Steps : Int) (s0_Strides : List Int) (s0_Broken : List Int) : c_i_ReachedSteps.start c_i_ReachedSteps.L ((s0_Steps, s0_Strides, s0_Broken), ()) = i_ReachedSteps s0_Steps s0_Strides s0_Broken := by kernel_rfl
noncomputable def F_i_ReachedSteps : Ins c_i_ReachedSteps.ins → Option (List Int × Bool) := fun x => i_ReachedSteps x.1.1 x.1.2.1 x.1.2.2
noncomputable def S_i_ReachedSteps : FSpec := mkF c_i_ReachedSteps.env.pre c_i_ReachedSteps.ins c_i_ReachedSteps.out c_i_ReachedSteps.inj F_i_ReachedSteps
theorem h_i_ReachedSteps : Cert Tryz.prog 7 S_i_ReachedSteps := FnCx.certF (c := c_i_ReachedSteps) F_i_ReachedSteps (tyOk _ _ _) (spOk ⟨h_i_AreStairs, fun _ _ h => h, ⟨h_i_Stairs_down, fun _ _ h => h, ⟨h_i_Stairs_those__i_ReachedSteps_c1, fun _ _ h => h, trivial⟩⟩⟩) (fun _ _ _ _ _ hs => noDr_ok) Tryz.func7 rfl rfl Tryz.ntmps7 (by kernel_rfl) rfl rfl (fun _ => rfl) trivial (fun x => .inl ⟨c_i_ReachedSteps.start () x, fun _ => rfl⟩) (fun x t hb ht => by
  obtain ⟨⟨s0_Steps, s0_Strides, s0_Broken⟩, _⟩ := x
  exact (i_ReachedSteps_e s0_Steps s0_Strides s0_Broken).trans ht)
/-! spec.ReachedSteps -/
noncomputable def c_s_ReachedSteps : FnCx := { env := env 29 [(41, S_s_clGood), (46, S_s_clReached)] [], body := bodyOf Tryz.f8, res := [.tmp 2, .tmp 3], ins := [.ro kStairs], out := [(kSint, true), (kbool, true)], T := List Int × Bool, fin := fun r => (r.1.1, r.1.2.1), inj := fun t => ((t.1, t.2, ()), ((), ())), pts := [([.inLoop [1, 1, 1, 0, 1, 0, 0], .inBlock 0, .code [1, 1, 1, 1]], Shape.mk [Bs.row kint 3 true, Bs.row kbool 4 true] [(4, Ss.one (Cs.sl 0)), (11, Ss.one (Cs.sl 1)), (12, Ss.one (Cs.sc kint)), (13, Ss.one (Cs.sc kint))] [Ss.one (Cs.any)])], fuel := 400, dr := noDr }
noncomputable def s_ReachedSteps_t1 (g1 : List (Int) → List (Bool) → Int → Int → Option (List Int × Bool)) (r0 : List (Int)) (r1 : List (Bool)) (s12 : Int) (s13 : Int) : Option (List Int × Bool) :=
  bif decide (s13 < s12) then
    bif decide (0 ≤ s13) then
      bif decide (s13 < (↑(List.length r1) : Int)) then
        bif rdk kbool r1 s13 then
          bif decide (s13 > 0) then bif Nat.ble (List.length r0 + 1) 4294967296 then g1 (r0 ++ [s13]) r1 s12 (IntKind.wrap IntKind.i64 (s13 + 1)) else none
          else g1 r0 r1 s12 (IntKind.wrap IntKind.i64 (s13 + 1))
        else g1 r0 r1 s12 (IntKind.wrap IntKind.i64 (s13 + 1))
      else none
    else none
  else some (r0, true)
noncomputable def s_ReachedSteps_t0 (g1 : List (Int) → List (Bool) → Int → Int → Option (List Int × Bool)) (s0_Steps : Int) (s0_Strides : List Int) (s0_Broken : List Int) : Option (List Int × Bool) :=
  bif !s_clGood s0_Steps s0_Strides s0_Broken then some ([], false)
  else Option.bind (s_clReached s0_Steps s0_Strides s0_Broken) fun r => g1 [] r (↑(List.length r) : Int) 0
theorem s_ReachedSteps_ts : Tails c_s_ReachedSteps.pts c_s_ReachedSteps.round :=
  ⟨fun s => by
    obtain ⟨⟨r0, r1, _⟩, ⟨_, _, s12, s13, _⟩, ⟨_, _⟩⟩ := s
    refine Tail.eq (Y := fun g => s_ReachedSteps_t1 (fun r0 r1 s12 s13 => g.1 ((r0, r1, ()), ((), (), s12, s13, ()), ((), ()))) r0 r1 s12 s13) ?_ (fun g => by kernel_rfl)
    simp only [s_ReachedSteps_t1]; repeat (first | exact Tail.const _ | exact Tail.here _ | exact Tail.there (Tail.here _) | exact Tail.there (Tail.there (Tail.here _)) | exact Tail.there (Tail.there (Tail.there (Tail.here _))) | exact Tail.there (Tail.there (Tail.there (Tail.there (Tail.here _)))) | exact Tail.there (Tail.there (Tail.there (Tail.there (Tail.there (Tail.here _))))) | apply Tail.cond | (apply Tail.bind; intro _)), trivial⟩
theorem s_ReachedSteps_hs : ∀ x, Tail c_s_ReachedSteps.pts (fun g => c_s_ReachedSteps.start g x) := fun x => by
    obtain ⟨⟨s0_Steps, s0_Strides, s0_Broken⟩, _⟩ := x
    refine Tail.eq (Y := fun g => s_ReachedSteps_t0 (fun r0 r1 s12 s13 => g.1 ((r0, r1, ()), ((), (), s12, s13, ()), ((), ()))) s0_Steps s0_Strides s0_Broken) ?_ (fun g => by kernel_rfl)
    simp only [s_ReachedSteps_t0]; repeat (first | exact Tail.const _ | exact Tail.here _ | exact Tail.there (Tail.here _) | exact Tail.there (Tail.there (Tail.here _)) | exact Tail.there (Tail.there (Tail.there (Tail.here _))) | exact Tail.there (Tail.there (Tail.there (Tail.there (Tail.here _)))) | exact Tail.there (Tail.there (Tail.there (Tail.there (Tail.there (Tail.here _))))) | apply Tail.cond | (apply Tail.bind; intro _))
noncomputable def s_ReachedSteps_L1 (r0 : List (Int)) (r1 : List (Bool)) (s12 : Int) (s13 : Int) : Option (List Int × Bool) := c_s_ReachedSteps.L.1 ((r0, r1, ()), ((), (), s12, s13, ()), ((), ()))
theorem s_ReachedSteps_u1 (r0 : List (Int)) (r1 : List (Bool)) (s12 : Int) (s13 : Int) : s_ReachedSteps_L1 r0 r1 s12 s13 = s_ReachedSteps_t1 s_ReachedSteps_L1 r0 r1 s12 s13 :=
  (congrArg (fun g => g.1 ((r0, r1, ()), ((), (), s12, s13, ()), ((), ()))) (FnCx.L_eq s_ReachedSteps_ts)).trans (by kernel_rfl)
noncomputable def s_ReachedSteps (s0_Steps : Int) (s0_Strides : List Int) (s0_Broken : List Int) : Option (List Int × Bool) := s_ReachedSteps_t0 s_ReachedSteps_L1 s0_Steps s0_Strides s0_Broken
theorem s_ReachedSteps_e (s0_Steps : Int) (s0_Strides : List Int) (s0_Broken : List Int) : c_s_ReachedSteps.start c_s_ReachedSteps.L ((s0_Steps, s0_Strides, s0_Broken), ()) = s_ReachedSteps s0_Steps s0_Strides s0_Broken := by kernel_rfl
noncomputable def F_s_ReachedSteps : Ins c_s_ReachedSteps.ins → Option (List Int × Bool) := fun x => s_ReachedSteps x.1.1 x.1.2.1 x.1.2.2
noncomputable def S_s_ReachedSteps : FSpec := mkF c_s_ReachedSteps.env.pre c_s_ReachedSteps.ins c_s_ReachedSteps.out c_s_ReachedSteps.inj F_s_ReachedSteps
theorem h_s_ReachedSteps : Cert Tryz.prog 8 S_s_ReachedSteps := FnCx.certF (c := c_s_ReachedSteps) F_s_ReachedSteps (tyOk _ _ _) (spOk ⟨h_s_clGood, fun _ _ h => h, ⟨h_s_clReached, fun _ _ h => h, trivial⟩⟩) (fun _ _ _ _ _ hs => noDr_ok) Tryz.func8 rfl rfl Tryz.ntmps8 (by kernel_rfl) rfl rfl (fun _ => rfl) s_ReachedSteps_ts s_ReachedSteps_hs (fun x t hb ht => by
  obtain ⟨⟨s0_Steps, s0_Strides, s0_Broken⟩, _⟩ := x
  exact (s_ReachedSteps_e s0_Steps s0_Strides s0_Broken).trans ht)
/-! impl.StuckSteps$1 -/
noncomputable def c_i_StuckSteps_c1 : FnCx := { env := env 17 [] [], body := bodyOf Tryz.f47, res := [.tmp 4], ins := [.ro kint, .rb 22 kSint, .rb 22 kSint], out := [(kbool, true)], T := Bool, fin := fun r => r.1.1, inj := fun t => ((t, ()), ((), (), (), ())), pts := [], fuel := 400, dr := noDr }
noncomputable def i_StuckSteps_c1 (k0 : Int) (x1 : List Int) (x2 : List Int) : Option Bool :=
  bif decide (0 ≤ k0) then
    bif decide (k0 < (↑(List.length (rdk kSint [x1] 0)) : Int)) then
      bif decide (rdk kint (rdk kSint [x1] 0) k0 > 0) then
        bif decide (0 ≤ k0) then
          bif decide (k0 < (↑(List.length (rdk kSint [x2] 0)) : Int)) then
            some (rdk kint (rdk kSint [x2] 0) k0 == 0)
          else none
        else none
      else some false
    else none
  else none
theorem i_StuckSteps_c1_e (k0 : Int) (x1 : List Int) (x2 : List Int) : c_i_StuckSteps_c1.start c_i_StuckSteps_c1.L (k0, x1, x2, ()) = i_StuckSteps_c1 k0 x1 x2 := by kernel_rfl
noncomputable def F_i_StuckSteps_c1 : Ins c_i_StuckSteps_c1.ins → Option Bool := fun x => i_StuckSteps_c1 x.1 x.2.1 x.2.2.1
noncomputable def S_i_StuckSteps_c1 : FSpec := mkF c_i_StuckSteps_c1.env.pre c_i_StuckSteps_c1.ins c_i_StuckSteps_c1.out c_i_StuckSteps_c1.inj F_i_StuckSteps_c1
theorem h_i_StuckSteps_c1 : Cert Tryz.prog 47 S_i_StuckSteps_c1 := FnCx.certF (c := c_i_StuckSteps_c1) F_i_StuckSteps_c1 (tyOk _ _ _) (spOk trivial) (fun _ _ _ _ _ hs => noDr_ok) Tryz.func47 rfl rfl Tryz.ntmps47 (by kernel_rfl) rfl rfl (fun _ => rfl) trivial (fun x => .inl ⟨c_i_StuckSteps_c1.start () x, fun _ => rfl⟩) (fun x t hb ht => by
  obtain ⟨k0, x1, x2, _⟩ := x
  exact (i_StuckSteps_c1_e k0 x1 x2).trans ht)
/-! (impl.Stairs).those -/
noncomputable def c_i_Stairs_those__i_StuckSteps_c1 : FnCx := { env := env 22 [(47, S_i_StuckSteps_c1)] [], body := bodyOf Tryz.f39, res := [.tmp 4], ins := [.ro kStairs, .fr 47 [(22, kSint), (22, kSint)]], out := [(kSint, true)], T := List Int, fin := fun r => r.1.1, inj := fun t => ((t, ()), ((), (), ())), pts := [([.inLoop [1, 1, 0, 1, 0, 0], .inBlock 0, .code [1, 1, 1]], Shape.mk [Bs.row kSint 22 false, Bs.row kSint 22 false, Bs.box 24 [Cs.sc kint, Cs.sl 4, Cs.sl 5], Bs.row kint 3 true, Bs.row kint 3 false, Bs.row kint 3 false] [(1, Ss.fn 47 [Cs.ep 0 1, Cs.ep 1 1]), (2, Ss.one (Cs.ptr 2 0)), (5, Ss.one (Cs.sl 3)), (6, Ss.one (Cs.sc kint))] [Ss.one (Cs.any), Ss.one (Cs.any)])], fuel := 400, dr := noDr }
noncomputable def i_Stairs_those__i_StuckSteps_c1_t1 (g1 : List (List (Int)) → List (List (Int)) → Int → List (Int) → List (Int) → List (Int) → Int → Option (List Int)) (r0 : List (List (Int))) (r1 : List (List (Int))) (b2_0 : Int) (r3 : List (Int)) (r4 : List (Int)) (r5 : List (Int)) (k6 : Int) : Option (List Int) :=
  bif decide (k6 ≤ b2_0) then
    Option.bind (i_StuckSteps_c1 k6 (rdk kSint r0 0) (rdk kSint r1 0)) fun r =>
      bif r then bif Nat.ble (List.length r3 + 1) 4294967296 then g1 r0 r1 b2_0 (r3 ++ [k6]) r4 r5 (IntKind.wrap IntKind.i64 (k6 + 1)) else none
      else g1 r0 r1 b2_0 r3 r4 r5 (IntKind.wrap IntKind.i64 (k6 + 1))
  else some r3
noncomputable def i_Stairs_those__i_StuckSteps_c1_t0 (g1 : List (List (Int)) → List (List (Int)) → Int → List (Int) → List (Int) → List (Int) → Int → Option (List Int)) (s0_Steps : Int) (s0_Strides : List Int) (s0_Broken : List Int) (holds1_0 : List Int) (holds1_1 : List Int) : Option (List Int) :=
  g1 [holds1_0] [holds1_1] s0_Steps [] s0_Strides s0_Broken 1
theorem i_Stairs_those__i_StuckSteps_c1_ts : Tails c_i_Stairs_those__i_StuckSteps_c1.pts c_i_Stairs_those__i_StuckSteps_c1.round :=
  ⟨fun s => by
    obtain ⟨⟨r0, r1, ⟨b2_0, _, _, _⟩, r3, r4, r5, _⟩, ⟨⟨_, _, _⟩, _, _, k6, _⟩, ⟨_, _, _⟩⟩ := s
    refine Tail.eq (Y := fun g => i_Stairs_those__i_StuckSteps_c1_t1 (fun r0 r1 b2_0 r3 r4 r5 k6 => g.1 ((r0, r1, (b2_0, (), (), ()), r3, r4, r5, ()), (((), (), ()), (), (), k6, ()), ((), (), ()))) r0 r1 b2_0 r3 r4 r5 k6) ?_ (fun g => by kernel_rfl)
    simp only [i_Stairs_those__i_StuckSteps_c1_t1]; repeat (first | exact Tail.const _ | exact Tail.here _ | exact Tail.there (Tail.here _) | exact Tail.there (Tail.there (Tail.here _)) | exact Tail.there (Tail.there (Tail.there (Tail.here _))) | exact Tail.there (Tail.there (Tail.there (Tail.there (Tail.here _)))) | exact Tail.there (Tail.there (Tail.there (Tail.there (Tail.there (Tail.here _))))) | apply Tail.cond | (apply Tail.bind; intro _)), trivial⟩
theorem i_Stairs_those__i_StuckSteps_c1_hs : ∀ x, Tail c_i_Stairs_those__i_StuckSteps_c1.pts (fun g => c_i_Stairs_those__i_StuckSteps_c1.start g x) := fun x => by
    obtain ⟨⟨s0_Steps, s0_Strides, s0_Broken⟩, ⟨holds1_0, holds1_1, _⟩, _⟩ := x
    refine Tail.eq (Y := fun g => i_Stairs_those__i_StuckSteps_c1_t0 (fun r0 r1 b2_0 r3 r4 r5 k6 => g.1 ((r0, r1, (b2_0, (), (), ()), r3, r4, r5, ()), (((), (), ()), (), (), k6, ()), ((), (), ()))) s0_Steps s0_Strides s0_Broken holds1_0 holds1_1) ?_ (fun g => by kernel_rfl)
    simp only [i_Stairs_those__i_StuckSteps_c1_t0]; repeat (first | exact Tail.const _ | exact Tail.here _ | exact Tail.there (Tail.here _) | exact Tail.there (Tail.there (Tail.here _)) | exact Tail.there (Tail.there (Tail.there (Tail.here _))) | exact Tail.there (Tail.there (Tail.there (Tail.there (Tail.here _)))) | exact Tail.there (Tail.there (Tail.there (Tail.there (Tail.there (Tail.here _))))) | apply Tail.cond | (apply Tail.bind; intro _))
noncomputable def i_Stairs_those__i_StuckSteps_c1_L1 (r0 : List (List (Int))) (r1 : List (List (Int))) (b2_0 : Int) (r3 : List (Int)) (r4 : List (Int)) (r5 : List (Int)) (k6 : Int) : Option (List Int) := c_i_Stairs_those__i_StuckSteps_c1.L.1 ((r0, r1, (b2_0, (), (), ()), r3, r4, r5, ()), (((), (), ()), (), (), k6, ()), ((), (), ()))
theorem i_Stairs_those__i_StuckSteps_c1_u1 (r0 : List (List (Int))) (r1 : List (List (Int))) (b2_0 : Int) (r3 : List (Int)) (r4 : List (Int)) (r5 : List (Int)) (k6 : Int) : i_Stairs_those__i_StuckSteps_c1_L1 r0 r1 b2_0 r3 r4 r5 k6 = i_Stairs_those__i_StuckSteps_c1_t1 i_Stairs_those__i_StuckSteps_c1_L1 r0 r1 b2_0 r3 r4 r5 k6 :=
  (congrArg (fun g => g.1 ((r0, r1, (b2_0, (), (), ()), r3, r4, r5, ()), (((), (), ()), (), (), k6, ()), ((), (), ()))) (FnCx.L_eq i_Stairs_those__i_StuckSteps_c1_ts)).trans (by kernel_rfl)
noncomputable def i_Stairs_those__i_StuckSteps_c1 (s0_Steps : Int) (s0_Strides : List Int) (s0_Broken : List Int) (holds1_0 : List Int) (holds1_1 : List Int) : Option (List Int) := i_Stairs_those__i_StuckSteps_c1_t0 i_Stairs_those__i_StuckSteps_c1_L1 s0_Steps s0_Strides s0_Broken holds1_0 holds1_1
theorem i_Stairs_those__i_StuckSteps_c1_e (s0_Steps : Int) (s0_Strides : List Int) (s0_Broken : List Int) (holds1_0 : List Int) (holds1_1 : List Int) : c_i_Stairs_those__i_StuckSteps_c1.start c_i_Stairs_those__i_StuckSteps_c1.L ((s0_Steps, s0_Strides, s0_Broken), (holds1_0, holds1_1, ()), ()) = i_Stairs_those__i_StuckSteps_c1 s0_Steps s0_Strides s0_Broken holds1_0 holds1_1 := by kernel_rfl
noncomputable def F_i_Stairs_those__i_StuckSteps_c1 : Ins c_i_Stairs_those__i_StuckSteps_c1.ins → Option (List Int) := fun x => i_Stairs_those__i_StuckSteps_c1 x.1.1 x.1.2.1 x.1.2.2 x.2.1.1 x.2.1.2.1
noncomputable def S_i_Stairs_those__i_StuckSteps_c1 : FSpec := mkF c_i_Stairs_those__i_StuckSteps_c1.env.pre c_i_Stairs_those__i_StuckSteps_c1.ins c_i_Stairs_those__i_StuckSteps_c1.out c_i_Stairs_those__i_StuckSteps_c1.inj F_i_Stairs_those__i_StuckSteps_c1
theorem h_i_Stairs_those__i_StuckSteps_c1 : Cert Tryz.prog 39 S_i_Stairs_those__i_StuckSteps_c1 := FnCx.certF (c := c_i_Stairs_those__i_StuckSteps_c1) F_i_Stairs_those__i_StuckSteps_c1 (tyOk _ _ _) (spOk ⟨h_i_StuckSteps_c1, fun _ _ h => h, trivial⟩) (fun _ _ _ _ _ hs => noDr_ok) Tryz.func39 rfl rfl Tryz.ntmps39 (by kernel_rfl) rfl rfl (fun _ => rfl) i_Stairs_those__i_StuckSteps_c1_ts i_Stairs_those__i_StuckSteps_c1_hs (fun x t hb ht => by
  obtain ⟨⟨s0_Steps, s0_Strides, s0_Broken⟩, ⟨holds1_0, holds1_1, _⟩, _⟩ := x
  exact (i_Stairs_those__i_StuckSteps_c1_e s0_Steps s0_Strides s0_Broken holds1_0 holds1_1).trans ht)
/-! impl.StuckSteps -/
noncomputable def c_i_StuckSteps : FnCx := { env := env 16 [(19, S_i_AreStairs), (37, S_i_Stairs_down), (38, S_i_Stairs_up), (39, S_i_Stairs_those__i_StuckSteps_c1)] [], body := bodyOf Tryz.f9, res := [.tmp 2, .tmp 3], ins := [.ro kStairs], out := [(kSint, true), (kbool, true)], T := List Int × Bool, fin := fun r => (r.1.1, r.1.2.1), inj := fun t => ((t.1, t.2, ()), ((), ())), pts := [], fuel := 400, dr := evDr (env 16 [(19, S_i_AreStairs), (37, S_i_Stairs_down), (38, S_i_Stairs_up), (39, S_i_Stairs_those__i_StuckSteps_c1)] []) }
noncomputable def i_StuckSteps (s0_Steps : Int) (s0_Strides : List Int) (s0_Broken : List Int) : Option (List Int × Bool) :=
  bif !i_AreStairs s0_Steps s0_Strides s0_Broken then some ([], false)
  else
    Option.bind (i_Stairs_down s0_Steps s0_Strides s0_Broken) fun r =>
      Option.bind (i_Stairs_up s0_Steps s0_Strides s0_Broken) fun r_1 =>
        Option.bind (i_Stairs_those__i_StuckSteps_c1 s0_Steps s0_Strides s0_Broken r r_1) fun r => some (r, true)
theorem i_StuckSteps_e (s0_Steps : Int) (s0_Strides : List Int) (s0_Broken : List Int) : c_i_StuckSteps.start c_i_StuckSteps.L ((s0_Steps, s0_Strides, s0_Broken), ()) = i_StuckSteps s0_Steps s0_Strides s0_Broken := by kernel_rfl
noncomputable def F_i_StuckSteps : Ins c_i_StuckSteps.ins → Option (List Int × Bool) := fun x => i_StuckSteps x.1.1 x.1.2.1 x.1.2.2
noncomputable def S_i_StuckSteps : FSpec := mkF c_i_StuckSteps.env.pre c_i_StuckSteps.ins c_i_StuckSteps.out c_i_StuckSteps.inj F_i_StuckSteps
theorem h_i_StuckSteps : Cert Tryz.prog 9 S_i_StuckSteps := FnCx.certF (c := c_i_StuckSteps) F_i_StuckSteps (tyOk _ _ _) (spOk ⟨h_i_AreStairs, fun _ _ h => h, ⟨h_i_Stairs_down, fun _ _ h => h, ⟨h_i_Stairs_up, fun _ _ h => h, ⟨h_i_Stairs_those__i_StuckSteps_c1, fun _ _ h => h, trivial⟩⟩⟩⟩) (fun _ _ _ _ _ hs => evDr_ok (tyOk _ _ _) hs follows) Tryz.func9 rfl rfl Tryz.ntmps9 (by kernel_rfl) rfl rfl (fun _ => rfl) trivial (fun x => .inl ⟨c_i_StuckSteps.start () x, fun _ => rfl⟩) (fun x t hb ht => by
  obtain ⟨⟨s0_Steps, s0_Strides, s0_Broken⟩, _⟩ := x
  exact (i_StuckSteps_e s0_Steps s0_Strides s0_Broken).trans ht)
/-! spec.StuckSteps -/
noncomputable def c_s_StuckSteps : FnCx := { env := env 39 [(41, S_s_clGood), (42, S_s_clWays), (46, S_s_clReached)] [], body := bodyOf Tryz.f10, res := [.tmp 2, .tmp 3], ins := [.ro kStairs], out := [(kSint, true), (kbool, true)], T := List Int × Bool, fin := fun r => (r.1.1, r.1.2.1), inj := fun t => ((t.1, t.2, ()), ((), ())), pts := [([.inLoop [1, 1, 1, 1, 0, 1, 0, 0], .inBlock 0, .code [1, 1, 1, 1, 1]], Shape.mk [Bs.row kint 3 true, Bs.row kint 3 true, Bs.row kbool 4 true] [(4, Ss.one (Cs.sl 0)), (5, Ss.one (Cs.sl 1)), (14, Ss.one (Cs.sl 2)), (15, Ss.one (Cs.sc kint)), (16, Ss.one (Cs.sc kint))] [Ss.one (Cs.any)])], fuel := 400, dr := noDr }
noncomputable def s_StuckSteps_t1 (g1 : List (Int) → List (Int) → List (Bool) → Int → Int → Option (List Int × Bool)) (r0 : List (Int)) (r1 : List (Int)) (r2 : List (Bool)) (s15 : Int) (s16 : Int) : Option (List Int × Bool) :=
  bif decide (s16 < s15) then
    bif decide (0 ≤ s16) then
      bif decide (s16 < (↑(List.length r2) : Int)) then
        bif rdk kbool r2 s16 then
          bif decide (s16 > 0) then
            bif decide (0 ≤ s16) then
              bif decide (s16 < (↑(List.length r0) : Int)) then
                bif rdk kint r0 s16 == 0 then
                  bif Nat.ble (List.length r1 + 1) 4294967296 then g1 r0 (r1 ++ [s16]) r2 s15 (IntKind.wrap IntKind.i64 (s16 + 1)) else none
                else g1 r0 r1 r2 s15 (IntKind.wrap IntKind.i64 (s16 + 1))
              else none
            else none
          else g1 r0 r1 r2 s15 (IntKind.wrap IntKind.i64 (s16 + 1))
        else g1 r0 r1 r2 s15 (IntKind.wrap IntKind.i64 (s16 + 1))
      else none
    else none
  else some (r1, true)
noncomputable def s_StuckSteps_t0 (g1 : List (Int) → List (Int) → List (Bool) → Int → Int → Option (List Int × Bool)) (s0_Steps : Int) (s0_Strides : List Int) (s0_Broken : List Int) : Option (List Int × Bool) :=
  bif !s_clGood s0_Steps s0_Strides s0_Broken then some ([], false)
  else
    Option.bind (s_clWays s0_Steps s0_Strides s0_Broken) fun r =>
      Option.bind (s_clReached s0_Steps s0_Strides s0_Broken) fun r_1 => g1 r [] r_1 (↑(List.length r_1) : Int) 0
theorem s_StuckSteps_ts : Tails c_s_StuckSteps.pts c_s_StuckSteps.round :=
  ⟨fun s => by
    obtain ⟨⟨r0, r1, r2, _⟩, ⟨_, _, _, s15, s16, _⟩, ⟨_, _⟩⟩ := s
    refine Tail.eq (Y := fun g => s_StuckSteps_t1 (fun r0 r1 r2 s15 s16 => g.1 ((r0, r1, r2, ()), ((), (), (), s15, s16, ()), ((), ()))) r0 r1 r2 s15 s16) ?_ (fun g => by kernel_rfl)
    simp only [s_StuckSteps_t1]; repeat (first | exact Tail.const _ | exact Tail.here _ | exact Tail.there (Tail.here _) | exact Tail.there (Tail.there (Tail.here _)) | exact Tail.there (Tail.there (Tail.there (Tail.here _))) | exact Tail.there (Tail.there (Tail.there (Tail.there (Tail.here _)))) | exact Tail.there (Tail.there (Tail.there (Tail.there (Tail.there (Tail.here _))))) | apply Tail.cond | (apply Tail.bind; intro _)), trivial⟩
theorem s_StuckSteps_hs : ∀ x, Tail c_s_StuckSteps.pts (fun g => c_s_StuckSteps.start g x) := fun x => by
    obtain ⟨⟨s0_Steps, s0_Strides, s0_Broken⟩, _⟩ := x
    refine Tail.eq (Y := fun g => s_StuckSteps_t0 (fun r0 r1 r2 s15 s16 => g.1 ((r0, r1, r2, ()), ((), (), (), s15, s16, ()), ((), ()))) s0_Steps s0_Strides s0_Broken) ?_ (fun g => by kernel_rfl)
    simp only [s_StuckSteps_t0]; repeat (first | exact Tail.const _ | exact Tail.here _ | exact Tail.there (Tail.here _) | exact Tail.there (Tail.there (Tail.here _)) | exact Tail.there (Tail.there (Tail.there (Tail.here _))) | exact Tail.there (Tail.there (Tail.there (Tail.there (Tail.here _)))) | exact Tail.there (Tail.there (Tail.there (Tail.there (Tail.there (Tail.here _))))) | apply Tail.cond | (apply Tail.bind; intro _))
noncomputable def s_StuckSteps_L1 (r0 : List (Int)) (r1 : List (Int)) (r2 : List (Bool)) (s15 : Int) (s16 : Int) : Option (List Int × Bool) := c_s_StuckSteps.L.1 ((r0, r1, r2, ()), ((), (), (), s15, s16, ()), ((), ()))
theorem s_StuckSteps_u1 (r0 : List (Int)) (r1 : List (Int)) (r2 : List (Bool)) (s15 : Int) (s16 : Int) : s_StuckSteps_L1 r0 r1 r2 s15 s16 = s_StuckSteps_t1 s_StuckSteps_L1 r0 r1 r2 s15 s16 :=
  (congrArg (fun g => g.1 ((r0, r1, r2, ()), ((), (), (), s15, s16, ()), ((), ()))) (FnCx.L_eq s_StuckSteps_ts)).trans (by kernel_rfl)
noncomputable def s_StuckSteps (s0_Steps : Int) (s0_Strides : List Int) (s0_Broken : List Int) : Option (List Int × Bool) := s_StuckSteps_t0 s_StuckSteps_L1 s0_Steps s0_Strides s0_Broken
theorem s_StuckSteps_e (s0_Steps : Int) (s0_Strides : List Int) (s0_Broken : List Int) : c_s_StuckSteps.start c_s_StuckSteps.L ((s0_Steps, s0_Strides, s0_Broken), ()) = s_StuckSteps s0_Steps s0_Strides s0_Broken := by kernel_rfl
noncomputable def F_s_StuckSteps : Ins c_s_StuckSteps.ins → Option (List Int × Bool) := fun x => s_StuckSteps x.1.1 x.1.2.1 x.1.2.2
noncomputable def S_s_StuckSteps : FSpec := mkF c_s_StuckSteps.env.pre c_s_StuckSteps.ins c_s_StuckSteps.out c_s_StuckSteps.inj F_s_StuckSteps
theorem h_s_StuckSteps : Cert Tryz.prog 10 S_s_StuckSteps := FnCx.certF (c := c_s_StuckSteps) F_s_StuckSteps (tyOk _ _ _) (spOk ⟨h_s_clGood, fun _ _ h => h, ⟨h_s_clWays, fun _ _ h => h, ⟨h_s_clReached, fun _ _ h => h, trivial⟩⟩⟩) (fun _ _ _ _ _ hs => noDr_ok) Tryz.func10 rfl rfl Tryz.ntmps10 (by kernel_rfl) rfl rfl (fun _ => rfl) s_StuckSteps_ts s_StuckSteps_hs (fun x t hb ht => by
  obtain ⟨⟨s0_Steps, s0_Strides, s0_Broken⟩, _⟩ := x
  exact (s_StuckSteps_e s0_Steps s0_Strides s0_Broken).trans ht)
/-! impl.WorstToBreak -/
noncomputable def c_i_WorstToBreak : FnCx := { env := env 54 [(48, S_i_counted), (37, S_i_Stairs_down)] [], body := bodyOf Tryz.f11, res := [.tmp 2, .tmp 3, .tmp 4], ins := [.ro kStairs], out := [(kint, true), (kint, true), (kbool, true)], T := Int × Int × Bool, fin := fun r => (r.1.1, r.1.2.1, r.1.2.2.1), inj := fun t => ((t.1, t.2.1, t.2.2, ()), ((), ())), pts := [([.inLoop [1, 1, 1, 1, 0, 1, 0, 0], .inBlock 0, .code [1, 1, 1, 1, 1]], Shape.mk [Bs.box 24 [Cs.sc kint, Cs.sl 3, Cs.sl 4], Bs.row kint 3 true, Bs.row kint 3 true, Bs.row kint 3 false, Bs.row kint 3 false] [(1, Ss.one (Cs.ptr 0 0)), (5, Ss.one (Cs.sl 1)), (7, Ss.one (Cs.sl 2)), (8, Ss.one (Cs.sc kint)), (9, Ss.one (Cs.sc kint)), (10, Ss.one (Cs.sc kint))] [Ss.one (Cs.any)])], fuel := 400, dr := evDr (env 54 [(48, S_i_counted), (37, S_i_Stairs_down)] []) }
noncomputable def i_WorstToBreak_t1 (g1 : Int → List (Int) → List (Int) → List (Int) → List (Int) → Int → Int → Int → Option (Int × Int × Bool)) (b0_0 : Int) (r1 : List (Int)) (r2 : List (Int)) (r3 : List (Int)) (r4 : List (Int)) (best8 : Int) (most9 : Int) (k10 : Int) : Option (Int × Int × Bool) :=
  bif decide (k10 < b0_0) then
    bif decide (0 ≤ k10) then
      bif decide (k10 < (↑(List.length r2) : Int)) then
        bif decide (0 ≤ k10) then
          bif decide (k10 < (↑(List.length r1) : Int)) then
            bif decide (IntKind.wrap IntKind.i64 (rdk kint r2 k10 * rdk kint r1 k10) > most9) then
              g1 b0_0 r1 r2 r3 r4 k10 (IntKind.wrap IntKind.i64 (rdk kint r2 k10 * rdk kint r1 k10))
                (IntKind.wrap IntKind.i64 (k10 + 1))
            else g1 b0_0 r1 r2 r3 r4 best8 most9 (IntKind.wrap IntKind.i64 (k10 + 1))
          else none
        else none
      else none
    else none
  else some (best8, most9, true)
noncomputable def i_WorstToBreak_t0 (g1 : Int → List (Int) → List (Int) → List (Int) → List (Int) → Int → Int → Int → Option (Int × Int × Bool)) (s0_Steps : Int) (s0_Strides : List Int) (s0_Broken : List Int) : Option (Int × Int × Bool) :=
  Option.bind (i_counted s0_Steps s0_Strides s0_Broken) fun r =>
    bif !Prod.snd r then some (0, 0, false)
    else
      bif decide (0 < (↑(List.length (Prod.fst r)) : Int)) then
        bif rdk kint (Prod.fst r) 0 == 0 then some (0, 0, false)
        else
          bif s0_Steps == 1 then some (0, 0, false)
          else Option.bind (i_Stairs_down s0_Steps s0_Strides s0_Broken) fun r_1 => g1 s0_Steps (Prod.fst r) r_1 s0_Strides s0_Broken 0 (-1) 1
      else none
theorem i_WorstToBreak_ts : Tails c_i_WorstToBreak.pts c_i_WorstToBreak.round :=
  ⟨fun s => by
    obtain ⟨⟨⟨b0_0, _, _, _⟩, r1, r2, r3, r4, _⟩, ⟨_, _, _, best8, most9, k10, _⟩, ⟨_, _⟩⟩ := s
    refine Tail.eq (Y := fun g => i_WorstToBreak_t1 (fun b0_0 r1 r2 r3 r4 best8 most9 k10 => g.1 (((b0_0, (), (), ()), r1, r2, r3, r4, ()), ((), (), (), best8, most9, k10, ()), ((), ()))) b0_0 r1 r2 r3 r4 best8 most9 k10) ?_ (fun g => by kernel_rfl)
    simp only [i_WorstToBreak_t1]; repeat (first | exact Tail.const _ | exact Tail.here _ | exact Tail.there (Tail.here _) | exact Tail.there (Tail.there (Tail.here _)) | exact Tail.there (Tail.there (Tail.there (Tail.here _))) | exact Tail.there (Tail.there (Tail.there (Tail.there (Tail.here _)))) | exact Tail.there (Tail.there (Tail.there (Tail.there (Tail.there (Tail.here _))))) | apply Tail.cond | (apply Tail.bind; intro _)), trivial⟩
theorem i_WorstToBreak_hs : ∀ x, Tail c_i_WorstToBreak.pts (fun g => c_i_WorstToBreak.start g x) := fun x => by
    obtain ⟨⟨s0_Steps, s0_Strides, s0_Broken⟩, _⟩ := x
    refine Tail.eq (Y := fun g => i_WorstToBreak_t0 (fun b0_0 r1 r2 r3 r4 best8 most9 k10 => g.1 (((b0_0, (), (), ()), r1, r2, r3, r4, ()), ((), (), (), best8, most9, k10, ()), ((), ()))) s0_Steps s0_Strides s0_Broken) ?_ (fun g => by kernel_rfl)
    simp only [i_WorstToBreak_t0]; repeat (first | exact Tail.const _ | exact Tail.here _ | exact Tail.there (Tail.here _) | exact Tail.there (Tail.there (Tail.here _)) | exact Tail.there (Tail.there (Tail.there (Tail.here _))) | exact Tail.there (Tail.there (Tail.there (Tail.there (Tail.here _)))) | exact Tail.there (Tail.there (Tail.there (Tail.there (Tail.there (Tail.here _))))) | apply Tail.cond | (apply Tail.bind; intro _))
noncomputable def i_WorstToBreak_L1 (b0_0 : Int) (r1 : List (Int)) (r2 : List (Int)) (r3 : List (Int)) (r4 : List (Int)) (best8 : Int) (most9 : Int) (k10 : Int) : Option (Int × Int × Bool) := c_i_WorstToBreak.L.1 (((b0_0, (), (), ()), r1, r2, r3, r4, ()), ((), (), (), best8, most9, k10, ()), ((), ()))
theorem i_WorstToBreak_u1 (b0_0 : Int) (r1 : List (Int)) (r2 : List (Int)) (r3 : List (Int)) (r4 : List (Int)) (best8 : Int) (most9 : Int) (k10 : Int) : i_WorstToBreak_L1 b0_0 r1 r2 r3 r4 best8 most9 k10 = i_WorstToBreak_t1 i_WorstToBreak_L1 b0_0 r1 r2 r3 r4 best8 most9 k10 :=
  (congrArg (fun g => g.1 (((b0_0, (), (), ()), r1, r2, r3, r4, ()), ((), (), (), best8, most9, k10, ()), ((), ()))) (FnCx.L_eq i_WorstToBreak_ts)).trans (by kernel_rfl)
noncomputable def i_WorstToBreak (s0_Steps : Int) (s0_Strides : List Int) (s0_Broken : List Int) : Option (Int × Int × Bool) := i_WorstToBreak_t0 i_WorstToBreak_L1 s0_Steps s0_Strides s0_Broken
theorem i_WorstToBreak_e (s0_Steps : Int) (s0_Strides : List Int) (s0_Broken : List Int) : c_i_WorstToBreak.start c_i_WorstToBreak.L ((s0_Steps, s0_Strides, s0_Broken), ()) = i_WorstToBreak s0_Steps s0_Strides s0_Broken := by kernel_rfl
noncomputable def F_i_WorstToBreak : Ins c_i_WorstToBreak.ins → Option (Int × Int × Bool) := fun x => i_WorstToBreak x.1.1 x.1.2.1 x.1.2.2
noncomputable def S_i_WorstToBreak : FSpec := mkF c_i_WorstToBreak.env.pre c_i_WorstToBreak.ins c_i_WorstToBreak.out c_i_WorstToBreak.inj F_i_WorstToBreak
theorem h_i_WorstToBreak : Cert Tryz.prog 11 S_i_WorstToBreak := FnCx.certF (c := c_i_WorstToBreak) F_i_WorstToBreak (tyOk _ _ _) (spOk ⟨h_i_counted, fun _ _ h => h, ⟨h_i_Stairs_down, fun _ _ h => h, trivial⟩⟩) (fun _ _ _ _ _ hs => evDr_ok (tyOk _ _ _) hs follows) Tryz.func11 rfl rfl Tryz.ntmps11 (by kernel_rfl) rfl rfl (fun _ => rfl) i_WorstToBreak_ts i_WorstToBreak_hs (fun x t hb ht => by
  obtain ⟨⟨s0_Steps, s0_Strides, s0_Broken⟩, _⟩ := x
  exact (i_WorstToBreak_e s0_Steps s0_Strides s0_Broken).trans ht)
/-! spec.clThrough -/
noncomputable def c_s_clThrough : FnCx := { env := env 28 [(42, S_s_clWays), (43, S_s_clStands), (44, S_s_clBreak)] [], body := bodyOf Tryz.f50, res := [.tmp 4], ins := [.ro kStairs, .ro kint], out := [(kint, true)], T := Int, fin := fun r => r.1.1, inj := fun t => ((t, ()), ((), (), ())), pts := [], fuel := 400, dr := evDr (env 28 [(42, S_s_clWays), (43, S_s_clStands), (44, S_s_clBreak)] []) }
noncomputable def s_clThrough (s0_Steps : Int) (s0_Strides : List Int) (s0_Broken : List Int) (step1 : Int) : Option Int :=
  bif step1 == s0_Steps then
    Option.bind (s_clWays s0_Steps s0_Strides s0_Broken) fun r => bif decide (0 < (↑(List.length r) : Int)) then some (rdk kint r 0) else none
  else
    bif !s_clStands s0_Steps s0_Strides s0_Broken step1 then some 0
    else
      Option.bind (s_clWays s0_Steps s0_Strides s0_Broken) fun r =>
        bif decide (0 < (↑(List.length r) : Int)) then
          Option.bind (s_clBreak s0_Steps s0_Strides s0_Broken step1) fun r_1 =>
            Option.bind (s_clWays (Prod.fst r_1) (Prod.fst (Prod.snd r_1)) (Prod.snd (Prod.snd r_1))) fun r_2 =>
              bif decide (0 < (↑(List.length r_2) : Int)) then some (IntKind.wrap IntKind.i64 (rdk kint r 0 - rdk kint r_2 0))
              else none
        else none
theorem s_clThrough_e (s0_Steps : Int) (s0_Strides : List Int) (s0_Broken : List Int) (step1 : Int) : c_s_clThrough.start c_s_clThrough.L ((s0_Steps, s0_Strides, s0_Broken), step1, ()) = s_clThrough s0_Steps s0_Strides s0_Broken step1 := by kernel_rfl
noncomputable def F_s_clThrough : Ins c_s_clThrough.ins → Option Int := fun x => s_clThrough x.1.1 x.1.2.1 x.1.2.2 x.2.1
noncomputable def S_s_clThrough : FSpec := mkF c_s_clThrough.env.pre c_s_clThrough.ins c_s_clThrough.out c_s_clThrough.inj F_s_clThrough
theorem h_s_clThrough : Cert Tryz.prog 50 S_s_clThrough := FnCx.certF (c := c_s_clThrough) F_s_clThrough (tyOk _ _ _) (spOk ⟨h_s_clWays, fun _ _ h => h, ⟨h_s_clStands, fun _ _ h => h, ⟨h_s_clBreak, fun _ _ h => h, trivial⟩⟩⟩) (fun _ _ _ _ _ hs => evDr_ok (tyOk _ _ _) hs follows) Tryz.func50 rfl rfl Tryz.ntmps50 (by kernel_rfl) rfl rfl (fun _ => rfl) trivial (fun x => .inl ⟨c_s_clThrough.start () x, fun _ => rfl⟩) (fun x t hb ht => by
  obtain ⟨⟨s0_Steps, s0_Strides, s0_Broken⟩, step1, _⟩ := x
  exact (s_clThrough_e s0_Steps s0_Strides s0_Broken step1).trans ht)
/-! spec.WorstToBreak -/
noncomputable def c_s_WorstToBreak : FnCx := { env := env 40 [(49, S_s_clCounted), (42, S_s_clWays), (50, S_s_clThrough)] [], body := bodyOf Tryz.f12, res := [.tmp 2, .tmp 3, .tmp 4], ins := [.ro kStairs], out := [(kint, true), (kint, true), (kbool, true)], T := Int × Int × Bool, fin := fun r => (r.1.1, r.1.2.1, r.1.2.2.1), inj := fun t => ((t.1, t.2.1, t.2.2, ()), ((), ())), pts := [([.inLoop [1, 1, 1, 0, 1, 0, 0], .inBlock 0, .code [1, 1, 1, 1]], Shape.mk [Bs.box 24 [Cs.sc kint, Cs.sl 1, Cs.sl 2], Bs.row kint 3 false, Bs.row kint 3 false] [(1, Ss.one (Cs.ptr 0 0)), (5, Ss.one (Cs.sc kint)), (6, Ss.one (Cs.sc kint)), (7, Ss.one (Cs.sc kint))] [Ss.one (Cs.any)])], fuel := 400, dr := noDr }
noncomputable def s_WorstToBreak_t1 (g1 : Int → List (Int) → List (Int) → Int → Int → Int → Option (Int × Int × Bool)) (b0_0 : Int) (r1 : List (Int)) (r2 : List (Int)) (best5 : Int) (most6 : Int) (step7 : Int) : Option (Int × Int × Bool) :=
  bif decide (step7 < b0_0) then
    Option.bind (s_clThrough b0_0 r1 r2 step7) fun r =>
      bif decide (r > most6) then g1 b0_0 r1 r2 step7 r (IntKind.wrap IntKind.i64 (step7 + 1))
      else g1 b0_0 r1 r2 best5 most6 (IntKind.wrap IntKind.i64 (step7 + 1))
  else some (best5, most6, true)
noncomputable def s_WorstToBreak_t0 (g1 : Int → List (Int) → List (Int) → Int → Int → Int → Option (Int × Int × Bool)) (s0_Steps : Int) (s0_Strides : List Int) (s0_Broken : List Int) : Option (Int × Int × Bool) :=
  Option.bind (s_clCounted s0_Steps s0_Strides s0_Broken) fun r =>
    bif !r then some (0, 0, false)
    else
      Option.bind (s_clWays s0_Steps s0_Strides s0_Broken) fun r =>
        bif decide (0 < (↑(List.length r) : Int)) then
          bif rdk kint r 0 == 0 then some (0, 0, false)
          else bif s0_Steps == 1 then some (0, 0, false) else g1 s0_Steps s0_Strides s0_Broken 0 (-1) 1
        else none
theorem s_WorstToBreak_ts : Tails c_s_WorstToBreak.pts c_s_WorstToBreak.round :=
  ⟨fun s => by
    obtain ⟨⟨⟨b0_0, _, _, _⟩, r1, r2, _⟩, ⟨_, best5, most6, step7, _⟩, ⟨_, _⟩⟩ := s
    refine Tail.eq (Y := fun g => s_WorstToBreak_t1 (fun b0_0 r1 r2 best5 most6 step7 => g.1 (((b0_0, (), (), ()), r1, r2, ()), ((), best5, most6, step7, ()), ((), ()))) b0_0 r1 r2 best5 most6 step7) ?_ (fun g => by kernel_rfl)
    simp only [s_WorstToBreak_t1]; repeat (first | exact Tail.const _ | exact Tail.here _ | exact Tail.there (Tail.here _) | exact Tail.there (Tail.there (Tail.here _)) | exact Tail.there (Tail.there (Tail.there (Tail.here _))) | exact Tail.there (Tail.there (Tail.there (Tail.there (Tail.here _)))) | exact Tail.there (Tail.there (Tail.there (Tail.there (Tail.there (Tail.here _))))) | apply Tail.cond | (apply Tail.bind; intro _)), trivial⟩
theorem s_WorstToBreak_hs : ∀ x, Tail c_s_WorstToBreak.pts (fun g => c_s_WorstToBreak.start g x) := fun x => by
    obtain ⟨⟨s0_Steps, s0_Strides, s0_Broken⟩, _⟩ := x
    refine Tail.eq (Y := fun g => s_WorstToBreak_t0 (fun b0_0 r1 r2 best5 most6 step7 => g.1 (((b0_0, (), (), ()), r1, r2, ()), ((), best5, most6, step7, ()), ((), ()))) s0_Steps s0_Strides s0_Broken) ?_ (fun g => by kernel_rfl)
    simp only [s_WorstToBreak_t0]; repeat (first | exact Tail.const _ | exact Tail.here _ | exact Tail.there (Tail.here _) | exact Tail.there (Tail.there (Tail.here _)) | exact Tail.there (Tail.there (Tail.there (Tail.here _))) | exact Tail.there (Tail.there (Tail.there (Tail.there (Tail.here _)))) | exact Tail.there (Tail.there (Tail.there (Tail.there (Tail.there (Tail.here _))))) | apply Tail.cond | (apply Tail.bind; intro _))
noncomputable def s_WorstToBreak_L1 (b0_0 : Int) (r1 : List (Int)) (r2 : List (Int)) (best5 : Int) (most6 : Int) (step7 : Int) : Option (Int × Int × Bool) := c_s_WorstToBreak.L.1 (((b0_0, (), (), ()), r1, r2, ()), ((), best5, most6, step7, ()), ((), ()))
theorem s_WorstToBreak_u1 (b0_0 : Int) (r1 : List (Int)) (r2 : List (Int)) (best5 : Int) (most6 : Int) (step7 : Int) : s_WorstToBreak_L1 b0_0 r1 r2 best5 most6 step7 = s_WorstToBreak_t1 s_WorstToBreak_L1 b0_0 r1 r2 best5 most6 step7 :=
  (congrArg (fun g => g.1 (((b0_0, (), (), ()), r1, r2, ()), ((), best5, most6, step7, ()), ((), ()))) (FnCx.L_eq s_WorstToBreak_ts)).trans (by kernel_rfl)
noncomputable def s_WorstToBreak (s0_Steps : Int) (s0_Strides : List Int) (s0_Broken : List Int) : Option (Int × Int × Bool) := s_WorstToBreak_t0 s_WorstToBreak_L1 s0_Steps s0_Strides s0_Broken
theorem s_WorstToBreak_e (s0_Steps : Int) (s0_Strides : List Int) (s0_Broken : List Int) : c_s_WorstToBreak.start c_s_WorstToBreak.L ((s0_Steps, s0_Strides, s0_Broken), ()) = s_WorstToBreak s0_Steps s0_Strides s0_Broken := by kernel_rfl
noncomputable def F_s_WorstToBreak : Ins c_s_WorstToBreak.ins → Option (Int × Int × Bool) := fun x => s_WorstToBreak x.1.1 x.1.2.1 x.1.2.2
noncomputable def S_s_WorstToBreak : FSpec := mkF c_s_WorstToBreak.env.pre c_s_WorstToBreak.ins c_s_WorstToBreak.out c_s_WorstToBreak.inj F_s_WorstToBreak
theorem h_s_WorstToBreak : Cert Tryz.prog 12 S_s_WorstToBreak := FnCx.certF (c := c_s_WorstToBreak) F_s_WorstToBreak (tyOk _ _ _) (spOk ⟨h_s_clCounted, fun _ _ h => h, ⟨h_s_clWays, fun _ _ h => h, ⟨h_s_clThrough, fun _ _ h => h, trivial⟩⟩⟩) (fun _ _ _ _ _ hs => noDr_ok) Tryz.func12 rfl rfl Tryz.ntmps12 (by kernel_rfl) rfl rfl (fun _ => rfl) s_WorstToBreak_ts s_WorstToBreak_hs (fun x t hb ht => by
  obtain ⟨⟨s0_Steps, s0_Strides, s0_Broken⟩, _⟩ := x
  exact (s_WorstToBreak_e s0_Steps s0_Strides s0_Broken).trans ht)
/-! impl.ClimbsThrough -/
noncomputable def c_i_ClimbsThrough : FnCx := { env := env 32 [(48, S_i_counted), (57, S_i_within), (37, S_i_Stairs_down)] [], body := bodyOf Tryz.f25, res := [.tmp 4, .tmp 5], ins := [.ro kStairs, .ro kint], out := [(kint, true), (kbool, true)], T := Int × Bool, fin := fun r => (r.1.1, r.1.2.1), inj := fun t => ((t.1, t.2, ()), ((), (), ())), pts := [], fuel := 400, dr := evDr (env 32 [(48, S_i_counted), (57, S_i_within), (37, S_i_Stairs_down)] []) }
noncomputable def i_ClimbsThrough (s0_Steps : Int) (s0_Strides : List Int) (s0_Broken : List Int) (step1 : Int) : Option (Int × Bool) :=
  Option.bind (i_counted s0_Steps s0_Strides s0_Broken) fun r =>
    bif !Prod.snd r then some (0, false)
    else
      bif !i_within step1 1 s0_Steps then some (0, false)
      else
        Option.bind (i_Stairs_down s0_Steps s0_Strides s0_Broken) fun r_1 =>
          bif decide (0 ≤ step1) then
            bif decide (step1 < (↑(List.length r_1) : Int)) then
              bif decide (0 ≤ step1) then
                bif decide (step1 < (↑(List.length (Prod.fst r)) : Int)) then
                  some (IntKind.wrap IntKind.i64 (rdk kint r_1 step1 * rdk kint (Prod.fst r) step1), true)
                else none
              else none
            else none
          else none
theorem i_ClimbsThrough_e (s0_Steps : Int) (s0_Strides : List Int) (s0_Broken : List Int) (step1 : Int) : c_i_ClimbsThrough.start c_i_ClimbsThrough.L ((s0_Steps, s0_Strides, s0_Broken), step1, ()) = i_ClimbsThrough s0_Steps s0_Strides s0_Broken step1 := by kernel_rfl
noncomputable def F_i_ClimbsThrough : Ins c_i_ClimbsThrough.ins → Option (Int × Bool) := fun x => i_ClimbsThrough x.1.1 x.1.2.1 x.1.2.2 x.2.1
noncomputable def S_i_ClimbsThrough : FSpec := mkF c_i_ClimbsThrough.env.pre c_i_ClimbsThrough.ins c_i_ClimbsThrough.out c_i_ClimbsThrough.inj F_i_ClimbsThrough
theorem h_i_ClimbsThrough : Cert Tryz.prog 25 S_i_ClimbsThrough := FnCx.certF (c := c_i_ClimbsThrough) F_i_ClimbsThrough (tyOk _ _ _) (spOk ⟨h_i_counted, fun _ _ h => h, ⟨h_i_within, fun _ _ h => h, ⟨h_i_Stairs_down, fun _ _ h => h, trivial⟩⟩⟩) (fun _ _ _ _ _ hs => evDr_ok (tyOk _ _ _) hs follows) Tryz.func25 rfl rfl Tryz.ntmps25 (by kernel_rfl) rfl rfl (fun _ => rfl) trivial (fun x => .inl ⟨c_i_ClimbsThrough.start () x, fun _ => rfl⟩) (fun x t hb ht => by
  obtain ⟨⟨s0_Steps, s0_Strides, s0_Broken⟩, step1, _⟩ := x
  exact (i_ClimbsThrough_e s0_Steps s0_Strides s0_Broken step1).trans ht)
/-! spec.ClimbsThrough -/
noncomputable def c_s_ClimbsThrough : FnCx := { env := env 19 [(49, S_s_clCounted), (64, S_s_l1In), (50, S_s_clThrough)] [], body := bodyOf Tryz.f28, res := [.tmp 4, .tmp 5], ins := [.ro kStairs, .ro kint], out := [(kint, true), (kbool, true)], T := Int × Bool, fin := fun r => (r.1.1, r.1.2.1), inj := fun t => ((t.1, t.2, ()), ((), (), ())), pts := [], fuel := 400, dr := noDr }
noncomputable def s_ClimbsThrough (s0_Steps : Int) (s0_Strides : List Int) (s0_Broken : List Int) (step1 : Int) : Option (Int × Bool) :=
  Option.bind (s_clCounted s0_Steps s0_Strides s0_Broken) fun r =>
    bif !r then some (0, false)
    else bif !s_l1In step1 1 s0_Steps then some (0, false) else Option.bind (s_clThrough s0_Steps s0_Strides s0_Broken step1) fun r => some (r, true)
theorem s_ClimbsThrough_e (s0_Steps : Int) (s0_Strides : List Int) (s0_Broken : List Int) (step1 : Int) : c_s_ClimbsThrough.start c_s_ClimbsThrough.L ((s0_Steps, s0_Strides, s0_Broken), step1, ()) = s_ClimbsThrough s0_Steps s0_Strides s0_Broken step1 := by kernel_rfl
noncomputable def F_s_ClimbsThrough : Ins c_s_ClimbsThrough.ins → Option (Int × Bool) := fun x => s_ClimbsThrough x.1.1 x.1.2.1 x.1.2.2 x.2.1
noncomputable def S_s_ClimbsThrough : FSpec := mkF c_s_ClimbsThrough.env.pre c_s_ClimbsThrough.ins c_s_ClimbsThrough.out c_s_ClimbsThrough.inj F_s_ClimbsThrough
theorem h_s_ClimbsThrough : Cert Tryz.prog 28 S_s_ClimbsThrough := FnCx.certF (c := c_s_ClimbsThrough) F_s_ClimbsThrough (tyOk _ _ _) (spOk ⟨h_s_clCounted, fun _ _ h => h, ⟨h_s_l1In, fun _ _ h => h, ⟨h_s_clThrough, fun _ _ h => h, trivial⟩⟩⟩) (fun _ _ _ _ _ hs => noDr_ok) Tryz.func28 rfl rfl Tryz.ntmps28 (by kernel_rfl) rfl rfl (fun _ => rfl) trivial (fun x => .inl ⟨c_s_ClimbsThrough.start () x, fun _ => rfl⟩) (fun x t hb ht => by
  obtain ⟨⟨s0_Steps, s0_Strides, s0_Broken⟩, step1, _⟩ := x
  exact (s_ClimbsThrough_e s0_Steps s0_Strides s0_Broken step1).trans ht)
/-! spec.AreStairs -/
noncomputable def c_s_AreStairs : FnCx := { env := env 5 [(41, S_s_clGood)] [], body := bodyOf Tryz.f20, res := [.tmp 2], ins := [.ro kStairs], out := [(kbool, true)], T := Bool, fin := fun r => r.1.1, inj := fun t => ((t, ()), ((), ())), pts := [], fuel := 400, dr := noDr }
noncomputable def s_AreStairs (s0_Steps : Int) (s0_Strides : List Int) (s0_Broken : List Int) : Bool :=
  s_clGood s0_Steps s0_Strides s0_Broken
theorem s_AreStairs_e (s0_Steps : Int) (s0_Strides : List Int) (s0_Broken : List Int) : c_s_AreStairs.start c_s_AreStairs.L ((s0_Steps, s0_Strides, s0_Broken), ()) = some (s_AreStairs s0_Steps s0_Strides s0_Broken) := by kernel_rfl
noncomputable def F_s_AreStairs : Ins c_s_AreStairs.ins → Bool := fun x => s_AreStairs x.1.1 x.1.2.1 x.1.2.2
noncomputable def S_s_AreStairs : FSpec := mkT c_s_AreStairs.env.pre c_s_AreStairs.ins c_s_AreStairs.out c_s_AreStairs.inj F_s_AreStairs
theorem h_s_AreStairs : Cert Tryz.prog 20 S_s_AreStairs := FnCx.certT (c := c_s_AreStairs) F_s_AreStairs (tyOk _ _ _) (spOk ⟨h_s_clGood, fun _ _ h => h, trivial⟩) (fun _ _ _ _ _ hs => noDr_ok) Tryz.func20 rfl rfl Tryz.ntmps20 (by kernel_rfl) rfl rfl (fun _ => rfl) trivial (fun x => .inl ⟨c_s_AreStairs.start () x, fun _ => rfl⟩) (fun x hb => by
  obtain ⟨⟨s0_Steps, s0_Strides, s0_Broken⟩, _⟩ := x
  exact s_AreStairs_e s0_Steps s0_Strides s0_Broken)
end Go.Proofs.YtgflffacaobkoaaGreatDoor.V
