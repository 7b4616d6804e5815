/- Functions of the program, as plain functions. No condition. -/
import Derived.Test.YtgflffacaobkoaaGreatDoorL2
set_option linter.unusedVariables false
set_option linter.unusedSimpArgs false
set_option maxRecDepth 100000
namespace Go.Proofs.YtgflffacaobkoaaGreatDoor.V
open Go Go.Ev Go.Proofs
/-! spec.TurnStairs -/
noncomputable def c_s_TurnStairs : FnCx := { env := env 38 [(41, S_s_clGood), (53, S_s_l1Own)] [], body := bodyOf Tryz.f14, res := [.cell 2 24, .tmp 3], ins := [.ro kStairs], out := [(kStairs, true), (kbool, true)], T := (Int × List Int × List Int) × Bool, fin := fun r => (r.1.1, r.1.2.1), inj := fun t => ((t.1, t.2, ()), ((), ())), pts := [([.inLoop [1, 1, 1, 0, 1, 0, 0], .inBlock 0, .code [1, 1, 1, 1]], Shape.mk [Bs.box 24 [Cs.sc kint, Cs.sl 3, Cs.sl 4], Bs.box 24 [Cs.sc kint, Cs.sl 5, Cs.sl 6], Bs.box 24 [Cs.sc kint, Cs.sl 7, Cs.sl 8], Bs.row kint 3 false, Bs.row kint 3 false, Bs.row kint 3 true, Bs.row kint 3 true, Bs.row kint 3 true, Bs.row kint 3 true] [(1, Ss.one (Cs.ptr 0 0)), (2, Ss.one (Cs.ptr 1 0)), (4, Ss.one (Cs.ptr 2 0)), (5, Ss.one (Cs.sc kint))] [Ss.one (Cs.any)])], fuel := 400, dr := evDr (env 38 [(41, S_s_clGood), (53, S_s_l1Own)] []) }
noncomputable def s_TurnStairs_t1 (g1 : Int → Int → Int → List (Int) → List (Int) → List (Int) → List (Int) → List (Int) → List (Int) → Int → Option ((Int × List Int × List Int) × Bool)) (b0_0 : Int) (b1_0 : Int) (b2_0 : Int) (r3 : List (Int)) (r4 : List (Int)) (r5 : List (Int)) (r6 : List (Int)) (r7 : List (Int)) (r8 : List (Int)) (i5 : Int) : Option ((Int × List Int × List Int) × Bool) :=
  bif decide (i5 ≥ 0) then
    bif decide (0 ≤ i5) then
      bif decide (i5 < (↑(List.length r4) : Int)) then
        bif Nat.ble (List.length r8 + 1) 4294967296 then
          g1 b0_0 b1_0 b2_0 r3 r4 r5 r6 r7 (r8 ++ [IntKind.wrap IntKind.i64 (b0_0 - rdk kint r4 i5)]) (IntKind.wrap IntKind.i64 (i5 - 1))
        else none
      else none
    else none
  else some ((b2_0, r7, r8), true)
noncomputable def s_TurnStairs_t0 (g1 : Int → Int → Int → List (Int) → List (Int) → List (Int) → List (Int) → List (Int) → List (Int) → Int → Option ((Int × List Int × List Int) × Bool)) (s0_Steps : Int) (s0_Strides : List Int) (s0_Broken : List Int) : Option ((Int × List Int × List Int) × Bool) :=
  bif !s_clGood s0_Steps s0_Strides s0_Broken then some ((0, [], []), false)
  else
    Option.bind (s_l1Own_n s0_Strides) fun r =>
      g1 s0_Steps 0 s0_Steps s0_Strides s0_Broken [] [] r [] (IntKind.wrap IntKind.i64 ((↑(List.length s0_Broken) : Int) - 1))
theorem s_TurnStairs_ts : Tails c_s_TurnStairs.pts c_s_TurnStairs.round :=
  ⟨fun s => by
    obtain ⟨⟨⟨b0_0, _, _, _⟩, ⟨b1_0, _, _, _⟩, ⟨b2_0, _, _, _⟩, r3, r4, r5, r6, r7, r8, _⟩, ⟨_, _, _, i5, _⟩, ⟨_, _⟩⟩ := s
    refine Tail.eq (Y := fun g => s_TurnStairs_t1 (fun b0_0 b1_0 b2_0 r3 r4 r5 r6 r7 r8 i5 => g.1 (((b0_0, (), (), ()), (b1_0, (), (), ()), (b2_0, (), (), ()), r3, r4, r5, r6, r7, r8, ()), ((), (), (), i5, ()), ((), ()))) b0_0 b1_0 b2_0 r3 r4 r5 r6 r7 r8 i5) ?_ (fun g => by kernel_rfl)
    simp only [s_TurnStairs_t1]; repeat (first | exact Tail.const _ | exact Tail.here _ | exact Tail.there (Tail.here _) | exact Tail.there (Tail.there (Tail.here _)) | exact Tail.there (Tail.there (Tail.there (Tail.here _))) | exact Tail.there (Tail.there (Tail.there (Tail.there (Tail.here _)))) | exact Tail.there (Tail.there (Tail.there (Tail.there (Tail.there (Tail.here _))))) | apply Tail.cond | (apply Tail.bind; intro _)), trivial⟩
theorem s_TurnStairs_hs : ∀ x, Tail c_s_TurnStairs.pts (fun g => c_s_TurnStairs.start g x) := fun x => by
    obtain ⟨⟨s0_Steps, s0_Strides, s0_Broken⟩, _⟩ := x
    refine Tail.eq (Y := fun g => s_TurnStairs_t0 (fun b0_0 b1_0 b2_0 r3 r4 r5 r6 r7 r8 i5 => g.1 (((b0_0, (), (), ()), (b1_0, (), (), ()), (b2_0, (), (), ()), r3, r4, r5, r6, r7, r8, ()), ((), (), (), i5, ()), ((), ()))) s0_Steps s0_Strides s0_Broken) ?_ (fun g => by kernel_rfl)
    simp only [s_TurnStairs_t0]; repeat (first | exact Tail.const _ | exact Tail.here _ | exact Tail.there (Tail.here _) | exact Tail.there (Tail.there (Tail.here _)) | exact Tail.there (Tail.there (Tail.there (Tail.here _))) | exact Tail.there (Tail.there (Tail.there (Tail.there (Tail.here _)))) | exact Tail.there (Tail.there (Tail.there (Tail.there (Tail.there (Tail.here _))))) | apply Tail.cond | (apply Tail.bind; intro _))
noncomputable def s_TurnStairs_L1 (b0_0 : Int) (b1_0 : Int) (b2_0 : Int) (r3 : List (Int)) (r4 : List (Int)) (r5 : List (Int)) (r6 : List (Int)) (r7 : List (Int)) (r8 : List (Int)) (i5 : Int) : Option ((Int × List Int × List Int) × Bool) := c_s_TurnStairs.L.1 (((b0_0, (), (), ()), (b1_0, (), (), ()), (b2_0, (), (), ()), r3, r4, r5, r6, r7, r8, ()), ((), (), (), i5, ()), ((), ()))
theorem s_TurnStairs_u1 (b0_0 : Int) (b1_0 : Int) (b2_0 : Int) (r3 : List (Int)) (r4 : List (Int)) (r5 : List (Int)) (r6 : List (Int)) (r7 : List (Int)) (r8 : List (Int)) (i5 : Int) : s_TurnStairs_L1 b0_0 b1_0 b2_0 r3 r4 r5 r6 r7 r8 i5 = s_TurnStairs_t1 s_TurnStairs_L1 b0_0 b1_0 b2_0 r3 r4 r5 r6 r7 r8 i5 :=
  (congrArg (fun g => g.1 (((b0_0, (), (), ()), (b1_0, (), (), ()), (b2_0, (), (), ()), r3, r4, r5, r6, r7, r8, ()), ((), (), (), i5, ()), ((), ()))) (FnCx.L_eq s_TurnStairs_ts)).trans (by kernel_rfl)
noncomputable def s_TurnStairs (s0_Steps : Int) (s0_Strides : List Int) (s0_Broken : List Int) : Option ((Int × List Int × List Int) × Bool) := s_TurnStairs_t0 s_TurnStairs_L1 s0_Steps s0_Strides s0_Broken
theorem s_TurnStairs_e (s0_Steps : Int) (s0_Strides : List Int) (s0_Broken : List Int) : c_s_TurnStairs.start c_s_TurnStairs.L ((s0_Steps, s0_Strides, s0_Broken), ()) = s_TurnStairs s0_Steps s0_Strides s0_Broken := by kernel_rfl
-- NICE tot
noncomputable def s_TurnStairs_n (a : Int) (b c : List Int) : (Int × List Int × List Int) × Bool := bif s_clGood a b c then ((a, b, (c.map fun x => a - x).reverse), true) else ((0, [], []), false)
theorem s_TurnStairs_ok (a : Int) (b c : List Int) (hb : BdI c_s_TurnStairs.ins ((a, b, c), ())) : s_TurnStairs a b c = some (s_TurnStairs_n a b c) := by
  unfold s_TurnStairs s_TurnStairs_t0 s_TurnStairs_n
  cases hg : s_clGood a b c
  · rfl
  · obtain ⟨h1, h2, h3, h4⟩ := s_clGood_iff.1 hg
    have hl := s_clGood_len hg
    have hc := (rising_iff.1 h4).2
    have hb5 : s_l1Own_n b = some b := by unfold s_l1Own_n; rw [decide_eq_true (by omega)]; rfl
    have e := loop_down (L := fun acc i => s_TurnStairs_L1 a 0 a b c [] [] b acc i) (l := c) (f := fun x => a - x) (e := fun acc => some ((a, b, acc), true))
      (fun i h acc ha => by
        have hx := hc c[i] (List.getElem_mem h)
        simp only [s_TurnStairs_u1 a 0 a b c [] [] b acc i, s_TurnStairs_t1, rdk_get (k := kint) h]
        rw [wrapI (n := a - c[i]) (by omega) (by omega), wrapI (n := (i : Int) - 1) (by omega) (by omega)]
        have : acc.length + 1 ≤ 4294967296 := by omega
        simp [h, ble_dec, this])
      (fun acc ha => by simp [s_TurnStairs_u1 a 0 a b c [] [] b acc (-1), s_TurnStairs_t1])
    simp only [hb5, Bool.not_true, cond_false, cond_true, Option.bind_some]
    rw [wrapI (by omega) (by omega)]
    exact e
noncomputable def F_s_TurnStairs : Ins c_s_TurnStairs.ins → ((Int × List Int × List Int) × Bool) := fun x => s_TurnStairs_n x.1.1 x.1.2.1 x.1.2.2
noncomputable def S_s_TurnStairs : FSpec := mkT c_s_TurnStairs.env.pre c_s_TurnStairs.ins c_s_TurnStairs.out c_s_TurnStairs.inj F_s_TurnStairs
theorem h_s_TurnStairs : Cert Tryz.prog 14 S_s_TurnStairs := FnCx.certT (c := c_s_TurnStairs) F_s_TurnStairs (tyOk _ _ _) (spOk ⟨h_s_clGood, fun _ _ h => h, ⟨h_s_l1Own, fun _ _ h => h, trivial⟩⟩) (fun _ _ _ _ _ hs => evDr_ok (tyOk _ _ _) hs follows) Tryz.func14 rfl rfl Tryz.ntmps14 (by kernel_rfl) rfl rfl (fun _ => rfl) s_TurnStairs_ts s_TurnStairs_hs (fun x hb => by
  obtain ⟨⟨s0_Steps, s0_Strides, s0_Broken⟩, _⟩ := x
  exact (s_TurnStairs_e s0_Steps s0_Strides s0_Broken).trans (s_TurnStairs_ok s0_Steps s0_Strides s0_Broken hb))
/-! slices.Clone[[]int,int] -/
noncomputable def c_slices_Clone_int : FnCx := { env := env 8 [] [], body := bodyOf Tryz.f80, res := [.tmp 2], ins := [.ro kSint], out := [(kSint, true)], T := List Int, fin := fun r => r.1.1, inj := fun t => ((t, ()), ((), ())), pts := [], fuel := 400, dr := noDr }
noncomputable def slices_Clone_int (s0 : List Int) : Option (List Int) :=
  bif decide (0 < (↑(List.length s0) : Int)) then bif Nat.ble (0 + List.length s0) 4294967296 then some ([] ++ s0) else none
  else both (some []) (bif Nat.ble (0 + List.length s0) 4294967296 then some ([] ++ s0) else none)
theorem slices_Clone_int_e (s0 : List Int) : c_slices_Clone_int.start c_slices_Clone_int.L (s0, ()) = slices_Clone_int s0 := by kernel_rfl
-- NICE opt
noncomputable def slices_Clone_int_n (s : List Int) : Option (List Int) := bif decide (s.length ≤ 4294967296) then some s else none
theorem slices_Clone_int_ok (s : List Int) (hb : BdI c_slices_Clone_int.ins (s, ())) (t : List Int) (ht : slices_Clone_int_n s = some t) : slices_Clone_int s = some t := by
  unfold slices_Clone_int_n at ht
  cases h : decide (s.length ≤ 4294967296)
  · rw [h] at ht; cases ht
  · rw [h] at ht; cases ht
    have h := of_decide_eq_true h
    unfold slices_Clone_int
    cases s with
    | nil => simp [ble_dec, both_same]
    | cons x l =>
      have h' : l.length + 1 ≤ 4294967296 := h
      have h2 : (0 : Int) < l.length + 1 := by omega
      simp [ble_dec, h', h2]
noncomputable def F_slices_Clone_int : Ins c_slices_Clone_int.ins → Option (List Int) := fun x => slices_Clone_int_n x.1
noncomputable def S_slices_Clone_int : FSpec := mkF c_slices_Clone_int.env.pre c_slices_Clone_int.ins c_slices_Clone_int.out c_slices_Clone_int.inj F_slices_Clone_int
theorem h_slices_Clone_int : Cert Tryz.prog 80 S_slices_Clone_int := FnCx.certF (c := c_slices_Clone_int) F_slices_Clone_int (tyOk _ _ _) (spOk trivial) (fun _ _ _ _ _ hs => noDr_ok) Tryz.func80 rfl rfl Tryz.ntmps80 (by kernel_rfl) rfl rfl (fun _ => rfl) trivial (fun x => .inl ⟨c_slices_Clone_int.start () x, fun _ => rfl⟩) (fun x t hb ht => by
  obtain ⟨s0, _⟩ := x
  exact (slices_Clone_int_e s0).trans (slices_Clone_int_ok s0 hb t ht))
/-! (impl.Stairs).copied -/
noncomputable def c_i_Stairs_copied : FnCx := { env := env 12 [(80, S_slices_Clone_int)] [], body := bodyOf Tryz.f51, res := [.cell 2 24], ins := [.ro kStairs], out := [(kStairs, true)], T := (Int × List Int × List Int), fin := fun r => r.1.1, inj := fun t => ((t, ()), ((), ())), pts := [], fuel := 400, dr := evDr (env 12 [(80, S_slices_Clone_int)] []) }
noncomputable def i_Stairs_copied (s0_Steps : Int) (s0_Strides : List Int) (s0_Broken : List Int) : Option ((Int × List Int × List Int)) :=
  Option.bind (slices_Clone_int_n s0_Strides) fun r => Option.bind (slices_Clone_int_n s0_Broken) fun r_1 => some (s0_Steps, r, r_1)
theorem i_Stairs_copied_e (s0_Steps : Int) (s0_Strides : List Int) (s0_Broken : List Int) : c_i_Stairs_copied.start c_i_Stairs_copied.L ((s0_Steps, s0_Strides, s0_Broken), ()) = i_Stairs_copied s0_Steps s0_Strides s0_Broken := by kernel_rfl
noncomputable def F_i_Stairs_copied : Ins c_i_Stairs_copied.ins → Option ((Int × List Int × List Int)) := fun x => i_Stairs_copied x.1.1 x.1.2.1 x.1.2.2
noncomputable def S_i_Stairs_copied : FSpec := mkF c_i_Stairs_copied.env.pre c_i_Stairs_copied.ins c_i_Stairs_copied.out c_i_Stairs_copied.inj F_i_Stairs_copied
theorem h_i_Stairs_copied : Cert Tryz.prog 51 S_i_Stairs_copied := FnCx.certF (c := c_i_Stairs_copied) F_i_Stairs_copied (tyOk _ _ _) (spOk ⟨h_slices_Clone_int, fun _ _ h => h, trivial⟩) (fun _ _ _ _ _ hs => evDr_ok (tyOk _ _ _) hs follows) Tryz.func51 rfl rfl Tryz.ntmps51 (by kernel_rfl) rfl rfl (fun _ => rfl) trivial (fun x => .inl ⟨c_i_Stairs_copied.start () x, fun _ => rfl⟩) (fun x t hb ht => by
  obtain ⟨⟨s0_Steps, s0_Strides, s0_Broken⟩, _⟩ := x
  exact (i_Stairs_copied_e s0_Steps s0_Strides s0_Broken).trans ht)
/-! slices.Reverse[[]int,int] -/
noncomputable def c_slices_Reverse_int : FnCx := { env := env 28 [] [], body := bodyOf Tryz.f52, res := [], ins := [.wr kSint], out := [], T := List Int, fin := fun r => r.2.1, inj := fun t => ((), (t, ())), pts := [([.inLoop [1, 0, 0], .inBlock 0], Shape.mk [Bs.row kint 3 true] [(0, Ss.one (Cs.sl 0)), (2, Ss.one (Cs.sc kint)), (3, Ss.one (Cs.sc kint))] [Ss.one (Cs.sl 0)])], fuel := 400, dr := evDr (env 28 [] []) }
noncomputable def slices_Reverse_int_t1 (g1 : List (Int) → Int → Int → Option (List Int)) (r0 : List (Int)) (i2 : Int) (j3 : Int) : Option (List Int) :=
  bif decide (i2 < j3) then
    bif decide (0 ≤ j3) then
      bif decide (j3 < (↑(List.length r0) : Int)) then
        bif decide (0 ≤ i2) then
          bif decide (i2 < (↑(List.length r0) : Int)) then
            bif decide (0 ≤ i2) then
              bif decide (i2 < (↑(List.length r0) : Int)) then
                bif decide (0 ≤ j3) then
                  bif decide (j3 < (↑(List.length (List.set r0 (Int.toNat i2) (rdk kint r0 j3))) : Int)) then
                    g1 (List.set (List.set r0 (Int.toNat i2) (rdk kint r0 j3)) (Int.toNat j3) (rdk kint r0 i2))
                      (IntKind.wrap IntKind.i64 (i2 + 1)) (IntKind.wrap IntKind.i64 (j3 - 1))
                  else none
                else none
              else none
            else none
          else none
        else none
      else none
    else none
  else some r0
noncomputable def slices_Reverse_int_t0 (g1 : List (Int) → Int → Int → Option (List Int)) (s0 : List Int) : Option (List Int) :=
  g1 s0 0 (IntKind.wrap IntKind.i64 ((↑(List.length s0) : Int) - 1))
theorem slices_Reverse_int_ts : Tails c_slices_Reverse_int.pts c_slices_Reverse_int.round :=
  ⟨fun s => by
    obtain ⟨⟨r0, _⟩, ⟨_, i2, j3, _⟩, ⟨_, _⟩⟩ := s
    refine Tail.eq (Y := fun g => slices_Reverse_int_t1 (fun r0 i2 j3 => g.1 ((r0, ()), ((), i2, j3, ()), ((), ()))) r0 i2 j3) ?_ (fun g => by kernel_rfl)
    simp only [slices_Reverse_int_t1]; repeat (first | exact Tail.const _ | exact Tail.here _ | exact Tail.there (Tail.here _) | exact Tail.there (Tail.there (Tail.here _)) | exact Tail.there (Tail.there (Tail.there (Tail.here _))) | exact Tail.there (Tail.there (Tail.there (Tail.there (Tail.here _)))) | exact Tail.there (Tail.there (Tail.there (Tail.there (Tail.there (Tail.here _))))) | apply Tail.cond | (apply Tail.bind; intro _)), trivial⟩
theorem slices_Reverse_int_hs : ∀ x, Tail c_slices_Reverse_int.pts (fun g => c_slices_Reverse_int.start g x) := fun x => by
    obtain ⟨s0, _⟩ := x
    refine Tail.eq (Y := fun g => slices_Reverse_int_t0 (fun r0 i2 j3 => g.1 ((r0, ()), ((), i2, j3, ()), ((), ()))) s0) ?_ (fun g => by kernel_rfl)
    simp only [slices_Reverse_int_t0]; repeat (first | exact Tail.const _ | exact Tail.here _ | exact Tail.there (Tail.here _) | exact Tail.there (Tail.there (Tail.here _)) | exact Tail.there (Tail.there (Tail.there (Tail.here _))) | exact Tail.there (Tail.there (Tail.there (Tail.there (Tail.here _)))) | exact Tail.there (Tail.there (Tail.there (Tail.there (Tail.there (Tail.here _))))) | apply Tail.cond | (apply Tail.bind; intro _))
noncomputable def slices_Reverse_int_L1 (r0 : List (Int)) (i2 : Int) (j3 : Int) : Option (List Int) := c_slices_Reverse_int.L.1 ((r0, ()), ((), i2, j3, ()), ((), ()))
theorem slices_Reverse_int_u1 (r0 : List (Int)) (i2 : Int) (j3 : Int) : slices_Reverse_int_L1 r0 i2 j3 = slices_Reverse_int_t1 slices_Reverse_int_L1 r0 i2 j3 :=
  (congrArg (fun g => g.1 ((r0, ()), ((), i2, j3, ()), ((), ()))) (FnCx.L_eq slices_Reverse_int_ts)).trans (by kernel_rfl)
noncomputable def slices_Reverse_int (s0 : List Int) : Option (List Int) := slices_Reverse_int_t0 slices_Reverse_int_L1 s0
theorem slices_Reverse_int_e (s0 : List Int) : c_slices_Reverse_int.start c_slices_Reverse_int.L (s0, ()) = slices_Reverse_int s0 := by kernel_rfl
-- NICE tot
noncomputable def slices_Reverse_int_n (s : List Int) : List Int := s.reverse
theorem slices_Reverse_int_ok (s : List Int) (hb : BdI c_slices_Reverse_int.ins (s, ())) : slices_Reverse_int s = some (slices_Reverse_int_n s) := by
  have hl : s.length ≤ maxLen := hb.1.1
  rw [maxLen_eq] at hl
  have e := loop_rev (L := slices_Reverse_int_L1) (l := s)
    (fun r i j hi hj hr hij => by
      have h1 : IntKind.wrap .i64 ((i : Int) + 1) = ((i + 1 : Nat) : Int) := by rw [wrap64 (by omega) (by omega)]; rfl
      have h2 : IntKind.wrap .i64 ((j : Int) - 1) = ((j - 1 : Nat) : Int) := by rw [wrap64 (by omega) (by omega)]; omega
      simp only [slices_Reverse_int_u1 r i j, slices_Reverse_int_t1, rdk_get (k := kint) hi, rdk_get (k := kint) hj, h1, h2, Int.toNat_natCast]
      simp [hi, hj, hij])
    (fun r i j hij => by
      rw [slices_Reverse_int_u1 r i j]
      simp only [slices_Reverse_int_t1]
      have : ¬ (i < j) := by omega
      simp [this])
  unfold slices_Reverse_int slices_Reverse_int_t0
  rw [wrap64 (by omega) (by omega)]
  exact e
noncomputable def F_slices_Reverse_int : Ins c_slices_Reverse_int.ins → (List Int) := fun x => slices_Reverse_int_n x.1
noncomputable def S_slices_Reverse_int : FSpec := mkT c_slices_Reverse_int.env.pre c_slices_Reverse_int.ins c_slices_Reverse_int.out c_slices_Reverse_int.inj F_slices_Reverse_int
theorem h_slices_Reverse_int : Cert Tryz.prog 52 S_slices_Reverse_int := FnCx.certT (c := c_slices_Reverse_int) F_slices_Reverse_int (tyOk _ _ _) (spOk trivial) (fun _ _ _ _ _ hs => evDr_ok (tyOk _ _ _) hs follows) Tryz.func52 rfl rfl Tryz.ntmps52 (by kernel_rfl) rfl rfl (fun _ => rfl) slices_Reverse_int_ts slices_Reverse_int_hs (fun x hb => by
  obtain ⟨s0, _⟩ := x
  exact (slices_Reverse_int_e s0).trans (slices_Reverse_int_ok s0 hb))
/-! impl.TurnStairs -/
noncomputable def c_i_TurnStairs : FnCx := { env := env 34 [(19, S_i_AreStairs), (51, S_i_Stairs_copied), (52, S_slices_Reverse_int)] [], body := bodyOf Tryz.f13, res := [.cell 2 24, .tmp 3], ins := [.ro kStairs], out := [(kStairs, true), (kbool, true)], T := (Int × List Int × List Int) × Bool, fin := fun r => (r.1.1, r.1.2.1), inj := fun t => ((t.1, t.2, ()), ((), ())), pts := [([.inLoop [1, 1, 1, 0, 1, 0, 0], .inBlock 0, .code [1, 1, 1, 1]], Shape.mk [Bs.box 24 [Cs.sc kint, Cs.sl 4, Cs.sl 5], Bs.box 24 [Cs.sc kint, Cs.sl 6, Cs.sl 7], Bs.box 24 [Cs.sc kint, Cs.sl 8, Cs.sl 3], Bs.row kint 3 true, Bs.row kint 3 false, Bs.row kint 3 false, Bs.row kint 3 true, Bs.row kint 3 true, Bs.row kint 3 true] [(1, Ss.one (Cs.ptr 0 0)), (2, Ss.one (Cs.ptr 1 0)), (4, Ss.one (Cs.ptr 2 0)), (14, Ss.one (Cs.sl 3)), (15, Ss.one (Cs.sc kint)), (16, Ss.one (Cs.sc kint))] [Ss.one (Cs.any)])], fuel := 400, dr := noDr }
noncomputable def i_TurnStairs_t1 (g1 : Int → Int → Int → List (Int) → List (Int) → List (Int) → List (Int) → List (Int) → List (Int) → Int → Int → Option ((Int × List Int × List Int) × Bool)) (b0_0 : Int) (b1_0 : Int) (b2_0 : Int) (r3 : List (Int)) (r4 : List (Int)) (r5 : List (Int)) (r6 : List (Int)) (r7 : List (Int)) (r8 : List (Int)) (s15 : Int) (s16 : Int) : Option ((Int × List Int × List Int) × Bool) :=
  bif decide (s16 < s15) then
    bif decide (0 ≤ s16) then
      bif decide (s16 < (↑(List.length r3) : Int)) then
        bif decide (0 ≤ s16) then
          bif decide (s16 < (↑(List.length r3) : Int)) then
            g1 b0_0 b1_0 b2_0 (List.set r3 (Int.toNat s16) (IntKind.wrap IntKind.i64 (b0_0 - rdk kint r3 s16))) r4 r5 r6 r7 r8 s15
              (IntKind.wrap IntKind.i64 (s16 + 1))
          else none
        else none
      else none
    else none
  else some ((b2_0, r8, slices_Reverse_int_n r3), true)
noncomputable def i_TurnStairs_t0 (g1 : Int → Int → Int → List (Int) → List (Int) → List (Int) → List (Int) → List (Int) → List (Int) → Int → Int → Option ((Int × List Int × List Int) × Bool)) (s0_Steps : Int) (s0_Strides : List Int) (s0_Broken : List Int) : Option ((Int × List Int × List Int) × Bool) :=
  bif !i_AreStairs s0_Steps s0_Strides s0_Broken then some ((0, [], []), false)
  else
    Option.bind (i_Stairs_copied s0_Steps s0_Strides s0_Broken) fun r =>
      g1 s0_Steps 0 (Prod.fst r) (Prod.snd (Prod.snd r)) s0_Strides s0_Broken [] [] (Prod.fst (Prod.snd r)) (↑(List.length (Prod.snd (Prod.snd r))) : Int) 0
theorem i_TurnStairs_ts : Tails c_i_TurnStairs.pts c_i_TurnStairs.round :=
  ⟨fun s => by
    obtain ⟨⟨⟨b0_0, _, _, _⟩, ⟨b1_0, _, _, _⟩, ⟨b2_0, _, _, _⟩, r3, r4, r5, r6, r7, r8, _⟩, ⟨_, _, _, _, s15, s16, _⟩, ⟨_, _⟩⟩ := s
    refine Tail.eq (Y := fun g => i_TurnStairs_t1 (fun b0_0 b1_0 b2_0 r3 r4 r5 r6 r7 r8 s15 s16 => g.1 (((b0_0, (), (), ()), (b1_0, (), (), ()), (b2_0, (), (), ()), r3, r4, r5, r6, r7, r8, ()), ((), (), (), (), s15, s16, ()), ((), ()))) b0_0 b1_0 b2_0 r3 r4 r5 r6 r7 r8 s15 s16) ?_ (fun g => by kernel_rfl)
    simp only [i_TurnStairs_t1]; repeat (first | exact Tail.const _ | exact Tail.here _ | exact Tail.there (Tail.here _) | exact Tail.there (Tail.there (Tail.here _)) | exact Tail.there (Tail.there (Tail.there (Tail.here _))) | exact Tail.there (Tail.there (Tail.there (Tail.there (Tail.here _)))) | exact Tail.there (Tail.there (Tail.there (Tail.there (Tail.there (Tail.here _))))) | apply Tail.cond | (apply Tail.bind; intro _)), trivial⟩
theorem i_TurnStairs_hs : ∀ x, Tail c_i_TurnStairs.pts (fun g => c_i_TurnStairs.start g x) := fun x => by
    obtain ⟨⟨s0_Steps, s0_Strides, s0_Broken⟩, _⟩ := x
    refine Tail.eq (Y := fun g => i_TurnStairs_t0 (fun b0_0 b1_0 b2_0 r3 r4 r5 r6 r7 r8 s15 s16 => g.1 (((b0_0, (), (), ()), (b1_0, (), (), ()), (b2_0, (), (), ()), r3, r4, r5, r6, r7, r8, ()), ((), (), (), (), s15, s16, ()), ((), ()))) s0_Steps s0_Strides s0_Broken) ?_ (fun g => by kernel_rfl)
    simp only [i_TurnStairs_t0]; repeat (first | exact Tail.const _ | exact Tail.here _ | exact Tail.there (Tail.here _) | exact Tail.there (Tail.there (Tail.here _)) | exact Tail.there (Tail.there (Tail.there (Tail.here _))) | exact Tail.there (Tail.there (Tail.there (Tail.there (Tail.here _)))) | exact Tail.there (Tail.there (Tail.there (Tail.there (Tail.there (Tail.here _))))) | apply Tail.cond | (apply Tail.bind; intro _))
noncomputable def i_TurnStairs_L1 (b0_0 : Int) (b1_0 : Int) (b2_0 : Int) (r3 : List (Int)) (r4 : List (Int)) (r5 : List (Int)) (r6 : List (Int)) (r7 : List (Int)) (r8 : List (Int)) (s15 : Int) (s16 : Int) : Option ((Int × List Int × List Int) × Bool) := c_i_TurnStairs.L.1 (((b0_0, (), (), ()), (b1_0, (), (), ()), (b2_0, (), (), ()), r3, r4, r5, r6, r7, r8, ()), ((), (), (), (), s15, s16, ()), ((), ()))
theorem i_TurnStairs_u1 (b0_0 : Int) (b1_0 : Int) (b2_0 : Int) (r3 : List (Int)) (r4 : List (Int)) (r5 : List (Int)) (r6 : List (Int)) (r7 : List (Int)) (r8 : List (Int)) (s15 : Int) (s16 : Int) : i_TurnStairs_L1 b0_0 b1_0 b2_0 r3 r4 r5 r6 r7 r8 s15 s16 = i_TurnStairs_t1 i_TurnStairs_L1 b0_0 b1_0 b2_0 r3 r4 r5 r6 r7 r8 s15 s16 :=
  (congrArg (fun g => g.1 (((b0_0, (), (), ()), (b1_0, (), (), ()), (b2_0, (), (), ()), r3, r4, r5, r6, r7, r8, ()), ((), (), (), (), s15, s16, ()), ((), ()))) (FnCx.L_eq i_TurnStairs_ts)).trans (by kernel_rfl)
noncomputable def i_TurnStairs (s0_Steps : Int) (s0_Strides : List Int) (s0_Broken : List Int) : Option ((Int × List Int × List Int) × Bool) := i_TurnStairs_t0 i_TurnStairs_L1 s0_Steps s0_Strides s0_Broken
theorem i_TurnStairs_e (s0_Steps : Int) (s0_Strides : List Int) (s0_Broken : List Int) : c_i_TurnStairs.start c_i_TurnStairs.L ((s0_Steps, s0_Strides, s0_Broken), ()) = i_TurnStairs s0_Steps s0_Strides s0_Broken := by kernel_rfl
-- NICE tot
noncomputable def i_TurnStairs_n (a : Int) (b c : List Int) : (Int × List Int × List Int) × Bool := bif s_clGood a b c then ((a, b, (c.map fun x => a - x).reverse), true) else ((0, [], []), false)
theorem i_TurnStairs_ok (a : Int) (b c : List Int) (hb : BdI c_i_TurnStairs.ins ((a, b, c), ())) : i_TurnStairs a b c = some (i_TurnStairs_n a b c) := by
  unfold i_TurnStairs i_TurnStairs_t0 i_TurnStairs_n
  rw [i_AreStairs_eq]
  cases hg : s_clGood a b c
  · rfl
  · obtain ⟨h1, h2, h3, h4⟩ := s_clGood_iff.1 hg
    have hl := s_clGood_len hg
    have hc := (rising_iff.1 h4).2
    have hcp : i_Stairs_copied a b c = some (a, b, c) := by
      unfold i_Stairs_copied slices_Clone_int_n
      rw [decide_eq_true (by omega : b.length ≤ 4294967296), decide_eq_true (by omega : c.length ≤ 4294967296)]
      rfl
    simp only [hcp, Bool.not_true, cond_false, cond_true, Option.bind_some]
    have e := loop_upd (L := fun i r => i_TurnStairs_L1 a 0 a r b c [] [] b c.length (i : Int)) (n := c.length) (f := fun x => IntKind.wrap .i64 (a - x)) (e := fun r => some ((a, b, r.reverse), true))
      (fun i r h hr => by
        have hi : i < c.length := by omega
        simp only [i_TurnStairs_u1 a 0 a r b c [] [] b c.length i, i_TurnStairs_t1, rdk_get (k := kint) h, wrapS hi (show c.length ≤ maxLen by rw [maxLen_eq]; omega), Int.toNat_natCast]
        simp [h, hi])
      (fun r hr => by simp [i_TurnStairs_u1 a 0 a r b c [] [] b c.length c.length, i_TurnStairs_t1, slices_Reverse_int_n]) c rfl
    rw [show ((0 : Int)) = ((0 : Nat) : Int) from rfl]
    refine e.trans ?_
    have : c.map (fun x => IntKind.wrap .i64 (a - x)) = c.map (fun x => a - x) := List.map_congr_left fun x hx => by
      have := hc x hx
      rw [wrapI (by omega) (by omega)]
    rw [this]
noncomputable def F_i_TurnStairs : Ins c_i_TurnStairs.ins → ((Int × List Int × List Int) × Bool) := fun x => i_TurnStairs_n x.1.1 x.1.2.1 x.1.2.2
noncomputable def S_i_TurnStairs : FSpec := mkT c_i_TurnStairs.env.pre c_i_TurnStairs.ins c_i_TurnStairs.out c_i_TurnStairs.inj F_i_TurnStairs
theorem h_i_TurnStairs : Cert Tryz.prog 13 S_i_TurnStairs := FnCx.certT (c := c_i_TurnStairs) F_i_TurnStairs (tyOk _ _ _) (spOk ⟨h_i_AreStairs, fun _ _ h => h, ⟨h_i_Stairs_copied, fun _ _ h => h, ⟨h_slices_Reverse_int, fun _ _ h => h, trivial⟩⟩⟩) (fun _ _ _ _ _ hs => noDr_ok) Tryz.func13 rfl rfl Tryz.ntmps13 (by kernel_rfl) rfl rfl (fun _ => rfl) i_TurnStairs_ts i_TurnStairs_hs (fun x hb => by
  obtain ⟨⟨s0_Steps, s0_Strides, s0_Broken⟩, _⟩ := x
  exact (i_TurnStairs_e s0_Steps s0_Strides s0_Broken).trans (i_TurnStairs_ok s0_Steps s0_Strides s0_Broken hb))
/-! slices.Sort[[]int,int] -/
noncomputable def slices_Sort_int (l : List Int) : Option (List Int) := sortIF l
noncomputable def F_slices_Sort_int : Ins [.wr kSint] → Option (List Int) := fun x => slices_Sort_int x.1
noncomputable def S_slices_Sort_int : FSpec := mkF (T := List Int) textPre [.wr kSint] [] (fun t => ((), (t, ()))) F_slices_Sort_int
theorem h_slices_Sort_int : Cert Tryz.prog 63 S_slices_Sort_int := sortI_cert lsortI rfl ⟨_, Tryz.func63, rfl, by kernel_rfl⟩
/-! impl.BreakStep -/
noncomputable def c_i_BreakStep : FnCx := { env := env 36 [(19, S_i_AreStairs), (57, S_i_within), (62, S_i_Stairs_isBroken), (51, S_i_Stairs_copied), (63, S_slices_Sort_int)] [], body := bodyOf Tryz.f26, res := [.cell 4 24, .tmp 5], ins := [.ro kStairs, .ro kint], out := [(kStairs, true), (kbool, true)], T := (Int × List Int × List Int) × Bool, fin := fun r => (r.1.1, r.1.2.1), inj := fun t => ((t.1, t.2, ()), ((), (), ())), pts := [], fuel := 400, dr := noDr }
noncomputable def i_BreakStep (s0_Steps : Int) (s0_Strides : List Int) (s0_Broken : List Int) (step1 : Int) : Option ((Int × List Int × List Int) × Bool) :=
  bif !i_AreStairs s0_Steps s0_Strides s0_Broken then some ((0, [], []), false)
  else
    bif !i_within step1 1 (IntKind.wrap IntKind.i64 (s0_Steps - 1)) then some ((0, [], []), false)
    else
      bif i_Stairs_isBroken s0_Steps s0_Strides s0_Broken step1 then some ((0, [], []), false)
      else
        Option.bind (i_Stairs_copied s0_Steps s0_Strides s0_Broken) fun r =>
          bif Nat.ble (List.length (Prod.snd (Prod.snd r)) + 1) 4294967296 then
            Option.bind (slices_Sort_int (Prod.snd (Prod.snd r) ++ [step1])) fun r_1 => some ((Prod.fst r, Prod.fst (Prod.snd r), r_1), true)
          else none
theorem i_BreakStep_e (s0_Steps : Int) (s0_Strides : List Int) (s0_Broken : List Int) (step1 : Int) : c_i_BreakStep.start c_i_BreakStep.L ((s0_Steps, s0_Strides, s0_Broken), step1, ()) = i_BreakStep s0_Steps s0_Strides s0_Broken step1 := by kernel_rfl
noncomputable def F_i_BreakStep : Ins c_i_BreakStep.ins → Option ((Int × List Int × List Int) × Bool) := fun x => i_BreakStep x.1.1 x.1.2.1 x.1.2.2 x.2.1
noncomputable def S_i_BreakStep : FSpec := mkF c_i_BreakStep.env.pre c_i_BreakStep.ins c_i_BreakStep.out c_i_BreakStep.inj F_i_BreakStep
theorem h_i_BreakStep : Cert Tryz.prog 26 S_i_BreakStep := FnCx.certF (c := c_i_BreakStep) F_i_BreakStep (tyOk _ _ _) (spOk ⟨h_i_AreStairs, fun _ _ h => h, ⟨h_i_within, fun _ _ h => h, ⟨h_i_Stairs_isBroken, fun _ _ h => h, ⟨h_i_Stairs_copied, fun _ _ h => h, ⟨h_slices_Sort_int, fun _ _ h => h, trivial⟩⟩⟩⟩⟩) (fun _ _ _ _ _ hs => noDr_ok) Tryz.func26 rfl rfl Tryz.ntmps26 (by kernel_rfl) rfl rfl (fun _ => rfl) trivial (fun x => .inl ⟨c_i_BreakStep.start () x, fun _ => rfl⟩) (fun x t hb ht => by
  obtain ⟨⟨s0_Steps, s0_Strides, s0_Broken⟩, step1, _⟩ := x
  exact (i_BreakStep_e s0_Steps s0_Strides s0_Broken step1).trans ht)
/-! spec.BreakStep -/
noncomputable def c_s_BreakStep : FnCx := { env := env 27 [(41, S_s_clGood), (64, S_s_l1In), (65, S_s_l1Has), (44, S_s_clBreak)] [], body := bodyOf Tryz.f27, res := [.cell 4 24, .tmp 5], ins := [.ro kStairs, .ro kint], out := [(kStairs, true), (kbool, true)], T := (Int × List Int × List Int) × Bool, fin := fun r => (r.1.1, r.1.2.1), inj := fun t => ((t.1, t.2, ()), ((), (), ())), pts := [], fuel := 400, dr := noDr }
noncomputable def s_BreakStep (s0_Steps : Int) (s0_Strides : List Int) (s0_Broken : List Int) (step1 : Int) : Option ((Int × List Int × List Int) × Bool) :=
  bif !s_clGood s0_Steps s0_Strides s0_Broken then some ((0, [], []), false)
  else
    bif !s_l1In step1 1 (IntKind.wrap IntKind.i64 (s0_Steps - 1)) then some ((0, [], []), false)
    else
      bif s_l1Has_n s0_Broken step1 then some ((0, [], []), false)
      else Option.bind (s_clBreak s0_Steps s0_Strides s0_Broken step1) fun r => some ((Prod.fst r, Prod.fst (Prod.snd r), Prod.snd (Prod.snd r)), true)
theorem s_BreakStep_e (s0_Steps : Int) (s0_Strides : List Int) (s0_Broken : List Int) (step1 : Int) : c_s_BreakStep.start c_s_BreakStep.L ((s0_Steps, s0_Strides, s0_Broken), step1, ()) = s_BreakStep s0_Steps s0_Strides s0_Broken step1 := by kernel_rfl
noncomputable def F_s_BreakStep : Ins c_s_BreakStep.ins → Option ((Int × List Int × List Int) × Bool) := fun x => s_BreakStep x.1.1 x.1.2.1 x.1.2.2 x.2.1
noncomputable def S_s_BreakStep : FSpec := mkF c_s_BreakStep.env.pre c_s_BreakStep.ins c_s_BreakStep.out c_s_BreakStep.inj F_s_BreakStep
theorem h_s_BreakStep : Cert Tryz.prog 27 S_s_BreakStep := FnCx.certF (c := c_s_BreakStep) F_s_BreakStep (tyOk _ _ _) (spOk ⟨h_s_clGood, fun _ _ h => h, ⟨h_s_l1In, fun _ _ h => h, ⟨h_s_l1Has, fun _ _ h => h, ⟨h_s_clBreak, fun _ _ h => h, trivial⟩⟩⟩⟩) (fun _ _ _ _ _ hs => noDr_ok) Tryz.func27 rfl rfl Tryz.ntmps27 (by kernel_rfl) rfl rfl (fun _ => rfl) trivial (fun x => .inl ⟨c_s_BreakStep.start () x, fun _ => rfl⟩) (fun x t hb ht => by
  obtain ⟨⟨s0_Steps, s0_Strides, s0_Broken⟩, step1, _⟩ := x
  exact (s_BreakStep_e s0_Steps s0_Strides s0_Broken step1).trans ht)
/-! spec.MendStep -/
noncomputable def c_s_MendStep : FnCx := { env := env 44 [(41, S_s_clGood), (65, S_s_l1Has), (53, S_s_l1Own)] [], body := bodyOf Tryz.f30, res := [.cell 4 24, .tmp 5], ins := [.ro kStairs, .ro kint], out := [(kStairs, true), (kbool, true)], T := (Int × List Int × List Int) × Bool, fin := fun r => (r.1.1, r.1.2.1), inj := fun t => ((t.1, t.2, ()), ((), (), ())), pts := [([.inLoop [1, 1, 1, 0, 1, 0, 0], .inBlock 0, .code [1, 1, 1, 1]], Shape.mk [Bs.box 24 [Cs.sc kint, Cs.sl 3, Cs.sl 4], Bs.box 24 [Cs.sc kint, Cs.sl 5, Cs.sl 6], Bs.row kint 3 false, Bs.row kint 3 true, Bs.row kint 3 true, Bs.row kint 3 true, Bs.row kint 3 true] [(1, Ss.one (Cs.sc kint)), (4, Ss.one (Cs.ptr 0 0)), (6, Ss.one (Cs.ptr 1 0)), (27, Ss.one (Cs.sl 2)), (28, Ss.one (Cs.sc kint)), (29, Ss.one (Cs.sc kint))] [Ss.one (Cs.any), Ss.one (Cs.any)])], fuel := 400, dr := evDr (env 44 [(41, S_s_clGood), (65, S_s_l1Has), (53, S_s_l1Own)] []) }
noncomputable def s_MendStep_t1 (g1 : Int → Int → List (Int) → List (Int) → List (Int) → List (Int) → List (Int) → Int → Int → Int → Option ((Int × List Int × List Int) × Bool)) (b0_0 : Int) (b1_0 : Int) (r2 : List (Int)) (r3 : List (Int)) (r4 : List (Int)) (r5 : List (Int)) (r6 : List (Int)) (step1 : Int) (s28 : Int) (s29 : Int) : Option ((Int × List Int × List Int) × Bool) :=
  bif decide (s29 < s28) then
    bif decide (0 ≤ s29) then
      bif decide (s29 < (↑(List.length r2) : Int)) then
        bif rdk kint r2 s29 != step1 then
          bif Nat.ble (List.length r6 + 1) 4294967296 then
            g1 b0_0 b1_0 r2 r3 r4 r5 (r6 ++ [rdk kint r2 s29]) step1 s28 (IntKind.wrap IntKind.i64 (s29 + 1))
          else none
        else g1 b0_0 b1_0 r2 r3 r4 r5 r6 step1 s28 (IntKind.wrap IntKind.i64 (s29 + 1))
      else none
    else none
  else some ((b1_0, r5, r6), true)
noncomputable def s_MendStep_t0 (g1 : Int → Int → List (Int) → List (Int) → List (Int) → List (Int) → List (Int) → Int → Int → Int → Option ((Int × List Int × List Int) × Bool)) (s0_Steps : Int) (s0_Strides : List Int) (s0_Broken : List Int) (step1 : Int) : Option ((Int × List Int × List Int) × Bool) :=
  bif !s_clGood s0_Steps s0_Strides s0_Broken then some ((0, [], []), false)
  else
    bif !s_l1Has_n s0_Broken step1 then some ((0, [], []), false)
    else Option.bind (s_l1Own_n s0_Strides) fun r => g1 0 s0_Steps s0_Broken [] [] r [] step1 (↑(List.length s0_Broken) : Int) 0
theorem s_MendStep_ts : Tails c_s_MendStep.pts c_s_MendStep.round :=
  ⟨fun s => by
    obtain ⟨⟨⟨b0_0, _, _, _⟩, ⟨b1_0, _, _, _⟩, r2, r3, r4, r5, r6, _⟩, ⟨step1, _, _, _, s28, s29, _⟩, ⟨_, _, _⟩⟩ := s
    refine Tail.eq (Y := fun g => s_MendStep_t1 (fun b0_0 b1_0 r2 r3 r4 r5 r6 step1 s28 s29 => g.1 (((b0_0, (), (), ()), (b1_0, (), (), ()), r2, r3, r4, r5, r6, ()), (step1, (), (), (), s28, s29, ()), ((), (), ()))) b0_0 b1_0 r2 r3 r4 r5 r6 step1 s28 s29) ?_ (fun g => by kernel_rfl)
    simp only [s_MendStep_t1]; repeat (first | exact Tail.const _ | exact Tail.here _ | exact Tail.there (Tail.here _) | exact Tail.there (Tail.there (Tail.here _)) | exact Tail.there (Tail.there (Tail.there (Tail.here _))) | exact Tail.there (Tail.there (Tail.there (Tail.there (Tail.here _)))) | exact Tail.there (Tail.there (Tail.there (Tail.there (Tail.there (Tail.here _))))) | apply Tail.cond | (apply Tail.bind; intro _)), trivial⟩
theorem s_MendStep_hs : ∀ x, Tail c_s_MendStep.pts (fun g => c_s_MendStep.start g x) := fun x => by
    obtain ⟨⟨s0_Steps, s0_Strides, s0_Broken⟩, step1, _⟩ := x
    refine Tail.eq (Y := fun g => s_MendStep_t0 (fun b0_0 b1_0 r2 r3 r4 r5 r6 step1 s28 s29 => g.1 (((b0_0, (), (), ()), (b1_0, (), (), ()), r2, r3, r4, r5, r6, ()), (step1, (), (), (), s28, s29, ()), ((), (), ()))) s0_Steps s0_Strides s0_Broken step1) ?_ (fun g => by kernel_rfl)
    simp only [s_MendStep_t0]; repeat (first | exact Tail.const _ | exact Tail.here _ | exact Tail.there (Tail.here _) | exact Tail.there (Tail.there (Tail.here _)) | exact Tail.there (Tail.there (Tail.there (Tail.here _))) | exact Tail.there (Tail.there (Tail.there (Tail.there (Tail.here _)))) | exact Tail.there (Tail.there (Tail.there (Tail.there (Tail.there (Tail.here _))))) | apply Tail.cond | (apply Tail.bind; intro _))
noncomputable def s_MendStep_L1 (b0_0 : Int) (b1_0 : Int) (r2 : List (Int)) (r3 : List (Int)) (r4 : List (Int)) (r5 : List (Int)) (r6 : List (Int)) (step1 : Int) (s28 : Int) (s29 : Int) : Option ((Int × List Int × List Int) × Bool) := c_s_MendStep.L.1 (((b0_0, (), (), ()), (b1_0, (), (), ()), r2, r3, r4, r5, r6, ()), (step1, (), (), (), s28, s29, ()), ((), (), ()))
theorem s_MendStep_u1 (b0_0 : Int) (b1_0 : Int) (r2 : List (Int)) (r3 : List (Int)) (r4 : List (Int)) (r5 : List (Int)) (r6 : List (Int)) (step1 : Int) (s28 : Int) (s29 : Int) : s_MendStep_L1 b0_0 b1_0 r2 r3 r4 r5 r6 step1 s28 s29 = s_MendStep_t1 s_MendStep_L1 b0_0 b1_0 r2 r3 r4 r5 r6 step1 s28 s29 :=
  (congrArg (fun g => g.1 (((b0_0, (), (), ()), (b1_0, (), (), ()), r2, r3, r4, r5, r6, ()), (step1, (), (), (), s28, s29, ()), ((), (), ()))) (FnCx.L_eq s_MendStep_ts)).trans (by kernel_rfl)
noncomputable def s_MendStep (s0_Steps : Int) (s0_Strides : List Int) (s0_Broken : List Int) (step1 : Int) : Option ((Int × List Int × List Int) × Bool) := s_MendStep_t0 s_MendStep_L1 s0_Steps s0_Strides s0_Broken step1
theorem s_MendStep_e (s0_Steps : Int) (s0_Strides : List Int) (s0_Broken : List Int) (step1 : Int) : c_s_MendStep.start c_s_MendStep.L ((s0_Steps, s0_Strides, s0_Broken), step1, ()) = s_MendStep s0_Steps s0_Strides s0_Broken step1 := by kernel_rfl
-- NICE tot
noncomputable def s_MendStep_n (a : Int) (b c : List Int) (k : Int) : (Int × List Int × List Int) × Bool := bif s_clGood a b c && decide (k ∈ c) then ((a, b, c.filter fun x => !(x == k)), true) else ((0, [], []), false)
theorem s_MendStep_ok (a : Int) (b c : List Int) (k : Int) (hb : BdI c_s_MendStep.ins ((a, b, c), k, ())) : s_MendStep a b c k = some (s_MendStep_n a b c k) := by
  unfold s_MendStep s_MendStep_t0 s_MendStep_n s_l1Has_n
  cases hg : s_clGood a b c
  · rfl
  · have hl := s_clGood_len hg
    have hm : c.length ≤ maxLen := by rw [maxLen_eq]; omega
    cases hk : decide (k ∈ c)
    · rfl
    · have ho : s_l1Own_n b = some b := by
        unfold s_l1Own_n
        rw [decide_eq_true (by omega : b.length ≤ 4294967296)]; rfl
      have e : ∀ r : List Int, r.length ≤ 0 → s_MendStep_L1 0 a c [] [] b r k c.length ((0 : Nat) : Int) = some ((a, b, r ++ c.filter fun x => !(x == k)), true) := by
        refine drop_ind c (fun i l => ∀ r : List Int, r.length ≤ i → s_MendStep_L1 0 a c [] [] b r k c.length (i : Int) = some ((a, b, r ++ l.filter fun x => !(x == k)), true)) (fun r _ => by simp [s_MendStep_u1 0 a c [] [] b r k c.length c.length, s_MendStep_t1]) (fun i h ih r hr => ?_)
        have h32 : r.length + 1 ≤ 4294967296 := by omega
        simp only [s_MendStep_u1 0 a c [] [] b r k c.length i, s_MendStep_t1, rdk_get (k := kint) h, wrapS h hm, ble_dec, decide_eq_true h32, bne]
        cases hx : c[i] == k
        · have := ih (r ++ [c[i]]) (by simp; omega)
          rw [List.filter_cons_of_pos (by rw [hx]; rfl)]
          simp [h]
          simpa using this
        · have := ih r (by omega)
          rw [List.filter_cons_of_neg (by rw [hx]; simp)]
          simp [h]
          simpa using this
      have := e [] (Nat.le_refl _)
      simp only [ho, Bool.not_true, cond_false, Option.bind_some, Bool.and_true, cond_true]
      simpa using this
noncomputable def F_s_MendStep : Ins c_s_MendStep.ins → ((Int × List Int × List Int) × Bool) := fun x => s_MendStep_n x.1.1 x.1.2.1 x.1.2.2 x.2.1
noncomputable def S_s_MendStep : FSpec := mkT c_s_MendStep.env.pre c_s_MendStep.ins c_s_MendStep.out c_s_MendStep.inj F_s_MendStep
theorem h_s_MendStep : Cert Tryz.prog 30 S_s_MendStep := FnCx.certT (c := c_s_MendStep) F_s_MendStep (tyOk _ _ _) (spOk ⟨h_s_clGood, fun _ _ h => h, ⟨h_s_l1Has, fun _ _ h => h, ⟨h_s_l1Own, fun _ _ h => h, trivial⟩⟩⟩) (fun _ _ _ _ _ hs => evDr_ok (tyOk _ _ _) hs follows) Tryz.func30 rfl rfl Tryz.ntmps30 (by kernel_rfl) rfl rfl (fun _ => rfl) s_MendStep_ts s_MendStep_hs (fun x hb => by
  obtain ⟨⟨s0_Steps, s0_Strides, s0_Broken⟩, step1, _⟩ := x
  exact (s_MendStep_e s0_Steps s0_Strides s0_Broken step1).trans (s_MendStep_ok s0_Steps s0_Strides s0_Broken step1 hb))
/-! impl.MendStep$1 -/
noncomputable def c_i_MendStep_c1 : FnCx := { env := env 7 [] [], body := bodyOf Tryz.f67, res := [.tmp 3], ins := [.ro kint, .ptr 3 kint], out := [(kbool, true)], T := Bool × Int, fin := fun r => (r.1.1, r.2.2.1), inj := fun t => ((t.1, ()), ((), t.2, ())), pts := [], fuel := 400, dr := noDr }
noncomputable def i_MendStep_c1 (k0 : Int) (x1 : Int) : (Bool × Int) :=
  (k0 == x1, x1)
theorem i_MendStep_c1_e (k0 : Int) (x1 : Int) : c_i_MendStep_c1.start c_i_MendStep_c1.L (k0, x1, ()) = some (i_MendStep_c1 k0 x1) := by kernel_rfl
noncomputable def F_i_MendStep_c1 : Ins c_i_MendStep_c1.ins → (Bool × Int) := fun x => ((i_MendStep_c1 x.1 x.2.1).1, x.2.1)
noncomputable def S_i_MendStep_c1 : FSpec := mkT c_i_MendStep_c1.env.pre c_i_MendStep_c1.ins c_i_MendStep_c1.out c_i_MendStep_c1.inj F_i_MendStep_c1
theorem h_i_MendStep_c1 : Cert Tryz.prog 67 S_i_MendStep_c1 := FnCx.certT (c := c_i_MendStep_c1) F_i_MendStep_c1 (tyOk _ _ _) (spOk trivial) (fun _ _ _ _ _ hs => noDr_ok) Tryz.func67 rfl rfl Tryz.ntmps67 (by kernel_rfl) rfl rfl (fun _ => rfl) trivial (fun x => .inl ⟨c_i_MendStep_c1.start () x, fun _ => rfl⟩) (fun x hb => by
  obtain ⟨k0, x1, _⟩ := x
  exact (i_MendStep_c1_e k0 x1).trans rfl)
/-! slices.IndexFunc[[]int,int] -/
noncomputable def c_slices_IndexFunc_int__i_MendStep_c1 : FnCx := { env := env 19 [(67, S_i_MendStep_c1)] [], body := bodyOf Tryz.f91, res := [.tmp 4], ins := [.ro kSint, .fn 67 [(3, kint)]], out := [(kint, true)], T := Int × Int, fin := fun r => (r.1.1, r.2.2.1.1), inj := fun t => ((t.1, ()), ((), (t.2, ()), ())), pts := [([.inLoop [1, 0, 1, 0, 0], .inBlock 0, .code [1, 1]], Shape.mk [Bs.row kint 3 false, Bs.box 3 [Cs.sc kint]] [(0, Ss.one (Cs.sl 0)), (1, Ss.fn 67 [Cs.ptr 1 0]), (7, Ss.one (Cs.sc kint)), (8, Ss.one (Cs.sc kint))] [Ss.one (Cs.any), Ss.fn 67 [Cs.ptr 1 0]])], fuel := 400, dr := noDr }
noncomputable def slices_IndexFunc_int__i_MendStep_c1_t1 (g1 : List (Int) → Int → Int → Int → Option (Int × Int)) (r0 : List (Int)) (b1_0 : Int) (s7 : Int) (s8 : Int) : Option (Int × Int) :=
  bif decide (s8 < s7) then
    bif decide (0 ≤ s8) then
      bif decide (s8 < (↑(List.length r0) : Int)) then
        bif rdk kint r0 s8 == b1_0 then some (s8, b1_0) else g1 r0 b1_0 s7 (IntKind.wrap IntKind.i64 (s8 + 1))
      else none
    else none
  else some (-1, b1_0)
noncomputable def slices_IndexFunc_int__i_MendStep_c1_t0 (g1 : List (Int) → Int → Int → Int → Option (Int × Int)) (s0 : List Int) (f1_0 : Int) : Option (Int × Int) :=
  g1 s0 f1_0 (↑(List.length s0) : Int) 0
theorem slices_IndexFunc_int__i_MendStep_c1_ts : Tails c_slices_IndexFunc_int__i_MendStep_c1.pts c_slices_IndexFunc_int__i_MendStep_c1.round :=
  ⟨fun s => by
    obtain ⟨⟨r0, ⟨b1_0, _⟩, _⟩, ⟨_, ⟨_, _⟩, s7, s8, _⟩, ⟨_, ⟨_, _⟩, _⟩⟩ := s
    refine Tail.eq (Y := fun g => slices_IndexFunc_int__i_MendStep_c1_t1 (fun r0 b1_0 s7 s8 => g.1 ((r0, (b1_0, ()), ()), ((), ((), ()), s7, s8, ()), ((), ((), ()), ()))) r0 b1_0 s7 s8) ?_ (fun g => by kernel_rfl)
    simp only [slices_IndexFunc_int__i_MendStep_c1_t1]; repeat (first | exact Tail.const _ | exact Tail.here _ | exact Tail.there (Tail.here _) | exact Tail.there (Tail.there (Tail.here _)) | exact Tail.there (Tail.there (Tail.there (Tail.here _))) | exact Tail.there (Tail.there (Tail.there (Tail.there (Tail.here _)))) | exact Tail.there (Tail.there (Tail.there (Tail.there (Tail.there (Tail.here _))))) | apply Tail.cond | (apply Tail.bind; intro _)), trivial⟩
theorem slices_IndexFunc_int__i_MendStep_c1_hs : ∀ x, Tail c_slices_IndexFunc_int__i_MendStep_c1.pts (fun g => c_slices_IndexFunc_int__i_MendStep_c1.start g x) := fun x => by
    obtain ⟨s0, ⟨f1_0, _⟩, _⟩ := x
    refine Tail.eq (Y := fun g => slices_IndexFunc_int__i_MendStep_c1_t0 (fun r0 b1_0 s7 s8 => g.1 ((r0, (b1_0, ()), ()), ((), ((), ()), s7, s8, ()), ((), ((), ()), ()))) s0 f1_0) ?_ (fun g => by kernel_rfl)
    simp only [slices_IndexFunc_int__i_MendStep_c1_t0]; repeat (first | exact Tail.const _ | exact Tail.here _ | exact Tail.there (Tail.here _) | exact Tail.there (Tail.there (Tail.here _)) | exact Tail.there (Tail.there (Tail.there (Tail.here _))) | exact Tail.there (Tail.there (Tail.there (Tail.there (Tail.here _)))) | exact Tail.there (Tail.there (Tail.there (Tail.there (Tail.there (Tail.here _))))) | apply Tail.cond | (apply Tail.bind; intro _))
noncomputable def slices_IndexFunc_int__i_MendStep_c1_L1 (r0 : List (Int)) (b1_0 : Int) (s7 : Int) (s8 : Int) : Option (Int × Int) := c_slices_IndexFunc_int__i_MendStep_c1.L.1 ((r0, (b1_0, ()), ()), ((), ((), ()), s7, s8, ()), ((), ((), ()), ()))
theorem slices_IndexFunc_int__i_MendStep_c1_u1 (r0 : List (Int)) (b1_0 : Int) (s7 : Int) (s8 : Int) : slices_IndexFunc_int__i_MendStep_c1_L1 r0 b1_0 s7 s8 = slices_IndexFunc_int__i_MendStep_c1_t1 slices_IndexFunc_int__i_MendStep_c1_L1 r0 b1_0 s7 s8 :=
  (congrArg (fun g => g.1 ((r0, (b1_0, ()), ()), ((), ((), ()), s7, s8, ()), ((), ((), ()), ()))) (FnCx.L_eq slices_IndexFunc_int__i_MendStep_c1_ts)).trans (by kernel_rfl)
noncomputable def slices_IndexFunc_int__i_MendStep_c1 (s0 : List Int) (f1_0 : Int) : Option (Int × Int) := slices_IndexFunc_int__i_MendStep_c1_t0 slices_IndexFunc_int__i_MendStep_c1_L1 s0 f1_0
theorem slices_IndexFunc_int__i_MendStep_c1_e (s0 : List Int) (f1_0 : Int) : c_slices_IndexFunc_int__i_MendStep_c1.start c_slices_IndexFunc_int__i_MendStep_c1.L (s0, (f1_0, ()), ()) = slices_IndexFunc_int__i_MendStep_c1 s0 f1_0 := by kernel_rfl
-- NICE tot
noncomputable def slices_IndexFunc_int__i_MendStep_c1_n (l : List Int) (d : Int) : Int × Int := (idxF (fun x => x == d) l 0, d)
theorem slices_IndexFunc_int__i_MendStep_c1_ok (l : List Int) (d : Int) (hb : BdI c_slices_IndexFunc_int__i_MendStep_c1.ins (l, (d, ()), ())) : slices_IndexFunc_int__i_MendStep_c1 l d = some (slices_IndexFunc_int__i_MendStep_c1_n l d) :=
  have hm : l.length ≤ maxLen := hb.1.1
  loop_idxG (fun i => (i, d)) (L := fun i => slices_IndexFunc_int__i_MendStep_c1_L1 l d l.length (i : Int)) (l := l) (p := fun x => x == d)
    (fun i h => by simp only [slices_IndexFunc_int__i_MendStep_c1_u1 l d l.length i, slices_IndexFunc_int__i_MendStep_c1_t1, rdk_get (k := kint) h, wrapS h hm]; simp [h]) (by simp [slices_IndexFunc_int__i_MendStep_c1_u1 l d l.length l.length, slices_IndexFunc_int__i_MendStep_c1_t1])
noncomputable def F_slices_IndexFunc_int__i_MendStep_c1 : Ins c_slices_IndexFunc_int__i_MendStep_c1.ins → (Int × Int) := fun x => slices_IndexFunc_int__i_MendStep_c1_n x.1 x.2.1.1
noncomputable def S_slices_IndexFunc_int__i_MendStep_c1 : FSpec := mkT c_slices_IndexFunc_int__i_MendStep_c1.env.pre c_slices_IndexFunc_int__i_MendStep_c1.ins c_slices_IndexFunc_int__i_MendStep_c1.out c_slices_IndexFunc_int__i_MendStep_c1.inj F_slices_IndexFunc_int__i_MendStep_c1
theorem h_slices_IndexFunc_int__i_MendStep_c1 : Cert Tryz.prog 91 S_slices_IndexFunc_int__i_MendStep_c1 := FnCx.certT (c := c_slices_IndexFunc_int__i_MendStep_c1) F_slices_IndexFunc_int__i_MendStep_c1 (tyOk _ _ _) (spOk ⟨h_i_MendStep_c1, fun _ _ h => h, trivial⟩) (fun _ _ _ _ _ hs => noDr_ok) Tryz.func91 rfl rfl Tryz.ntmps91 (by kernel_rfl) rfl rfl (fun _ => rfl) slices_IndexFunc_int__i_MendStep_c1_ts slices_IndexFunc_int__i_MendStep_c1_hs (fun x hb => by
  obtain ⟨s0, ⟨f1_0, _⟩, _⟩ := x
  exact (slices_IndexFunc_int__i_MendStep_c1_e s0 f1_0).trans (slices_IndexFunc_int__i_MendStep_c1_ok s0 f1_0 hb))
/-! slices.DeleteFunc[[]int,int] -/
noncomputable def c_slices_DeleteFunc_int__i_MendStep_c1 : FnCx := { env := env 42 [(91, S_slices_IndexFunc_int__i_MendStep_c1), (67, S_i_MendStep_c1)] [38, 41], body := bodyOf Tryz.f66, res := [.tmp 4], ins := [.mv kSint, .fn 67 [(3, kint)]], out := [(kSint, true)], T := List Int × Int, fin := fun r => (r.1.1, r.2.2.1.1), inj := fun t => ((t.1, ()), ((), (t.2, ()), ())), pts := [([.inLoop [1, 1, 1, 0, 1, 0, 0], .inBlock 0, .code [1, 1, 1, 1]], Shape.mk [Bs.row kint 3 true, Bs.box 3 [Cs.sc kint]] [(0, Ss.one (Cs.sl 0)), (1, Ss.fn 67 [Cs.ptr 1 0]), (5, Ss.one (Cs.sc kint)), (6, Ss.one (Cs.sc kint))] [Ss.one (Cs.any), Ss.fn 67 [Cs.ptr 1 0]])], fuel := 400, dr := noDr }
noncomputable def slices_DeleteFunc_int__i_MendStep_c1_t1 (g1 : List (Int) → Int → Int → Int → Option (List Int × Int)) (r0 : List (Int)) (b1_0 : Int) (i5 : Int) (j6 : Int) : Option (List Int × Int) :=
  bif decide (j6 < (↑(List.length r0) : Int)) then
    bif decide (0 ≤ j6) then
      bif decide (j6 < (↑(List.length r0) : Int)) then
        bif !rdk kint r0 j6 == b1_0 then
          bif decide (0 ≤ i5) then
            bif decide (i5 < (↑(List.length r0) : Int)) then
              g1 (List.set r0 (Int.toNat i5) (rdk kint r0 j6)) b1_0 (IntKind.wrap IntKind.i64 (i5 + 1)) (IntKind.wrap IntKind.i64 (j6 + 1))
            else none
          else none
        else g1 r0 b1_0 i5 (IntKind.wrap IntKind.i64 (j6 + 1))
      else none
    else none
  else
    bif decide (0 ≤ i5) then
      bif decide (i5 ≤ (↑(List.length r0) : Int)) then
        bif decide (0 ≤ i5) then
          bif
              decide
                (i5 ≤ (↑(List.length (List.take (Int.toNat i5) r0 ++ List.replicate (List.length r0 - Int.toNat i5) (Kd.zero kint))) : Int)) then
            some (List.take (Int.toNat i5) (List.take (Int.toNat i5) r0 ++ List.replicate (List.length r0 - Int.toNat i5) (Kd.zero kint)), b1_0)
          else none
        else none
      else none
    else none
noncomputable def slices_DeleteFunc_int__i_MendStep_c1_t0 (g1 : List (Int) → Int → Int → Int → Option (List Int × Int)) (s0 : List Int) (del1_0 : Int) : Option (List Int × Int) :=
  bif idxF (fun x => x == del1_0) s0 0 == -1 then some (s0, del1_0)
  else g1 s0 del1_0 (idxF (fun x => x == del1_0) s0 0) (IntKind.wrap IntKind.i64 (idxF (fun x => x == del1_0) s0 0 + 1))
theorem slices_DeleteFunc_int__i_MendStep_c1_ts : Tails c_slices_DeleteFunc_int__i_MendStep_c1.pts c_slices_DeleteFunc_int__i_MendStep_c1.round :=
  ⟨fun s => by
    obtain ⟨⟨r0, ⟨b1_0, _⟩, _⟩, ⟨_, ⟨_, _⟩, i5, j6, _⟩, ⟨_, ⟨_, _⟩, _⟩⟩ := s
    refine Tail.eq (Y := fun g => slices_DeleteFunc_int__i_MendStep_c1_t1 (fun r0 b1_0 i5 j6 => g.1 ((r0, (b1_0, ()), ()), ((), ((), ()), i5, j6, ()), ((), ((), ()), ()))) r0 b1_0 i5 j6) ?_ (fun g => by kernel_rfl)
    simp only [slices_DeleteFunc_int__i_MendStep_c1_t1]; repeat (first | exact Tail.const _ | exact Tail.here _ | exact Tail.there (Tail.here _) | exact Tail.there (Tail.there (Tail.here _)) | exact Tail.there (Tail.there (Tail.there (Tail.here _))) | exact Tail.there (Tail.there (Tail.there (Tail.there (Tail.here _)))) | exact Tail.there (Tail.there (Tail.there (Tail.there (Tail.there (Tail.here _))))) | apply Tail.cond | (apply Tail.bind; intro _)), trivial⟩
theorem slices_DeleteFunc_int__i_MendStep_c1_hs : ∀ x, Tail c_slices_DeleteFunc_int__i_MendStep_c1.pts (fun g => c_slices_DeleteFunc_int__i_MendStep_c1.start g x) := fun x => by
    obtain ⟨s0, ⟨del1_0, _⟩, _⟩ := x
    refine Tail.eq (Y := fun g => slices_DeleteFunc_int__i_MendStep_c1_t0 (fun r0 b1_0 i5 j6 => g.1 ((r0, (b1_0, ()), ()), ((), ((), ()), i5, j6, ()), ((), ((), ()), ()))) s0 del1_0) ?_ (fun g => by kernel_rfl)
    simp only [slices_DeleteFunc_int__i_MendStep_c1_t0]; repeat (first | exact Tail.const _ | exact Tail.here _ | exact Tail.there (Tail.here _) | exact Tail.there (Tail.there (Tail.here _)) | exact Tail.there (Tail.there (Tail.there (Tail.here _))) | exact Tail.there (Tail.there (Tail.there (Tail.there (Tail.here _)))) | exact Tail.there (Tail.there (Tail.there (Tail.there (Tail.there (Tail.here _))))) | apply Tail.cond | (apply Tail.bind; intro _))
noncomputable def slices_DeleteFunc_int__i_MendStep_c1_L1 (r0 : List (Int)) (b1_0 : Int) (i5 : Int) (j6 : Int) : Option (List Int × Int) := c_slices_DeleteFunc_int__i_MendStep_c1.L.1 ((r0, (b1_0, ()), ()), ((), ((), ()), i5, j6, ()), ((), ((), ()), ()))
theorem slices_DeleteFunc_int__i_MendStep_c1_u1 (r0 : List (Int)) (b1_0 : Int) (i5 : Int) (j6 : Int) : slices_DeleteFunc_int__i_MendStep_c1_L1 r0 b1_0 i5 j6 = slices_DeleteFunc_int__i_MendStep_c1_t1 slices_DeleteFunc_int__i_MendStep_c1_L1 r0 b1_0 i5 j6 :=
  (congrArg (fun g => g.1 ((r0, (b1_0, ()), ()), ((), ((), ()), i5, j6, ()), ((), ((), ()), ()))) (FnCx.L_eq slices_DeleteFunc_int__i_MendStep_c1_ts)).trans (by kernel_rfl)
noncomputable def slices_DeleteFunc_int__i_MendStep_c1 (s0 : List Int) (del1_0 : Int) : Option (List Int × Int) := slices_DeleteFunc_int__i_MendStep_c1_t0 slices_DeleteFunc_int__i_MendStep_c1_L1 s0 del1_0
theorem slices_DeleteFunc_int__i_MendStep_c1_e (s0 : List Int) (del1_0 : Int) : c_slices_DeleteFunc_int__i_MendStep_c1.start c_slices_DeleteFunc_int__i_MendStep_c1.L (s0, (del1_0, ()), ()) = slices_DeleteFunc_int__i_MendStep_c1 s0 del1_0 := by kernel_rfl
-- NICE tot
noncomputable def slices_DeleteFunc_int__i_MendStep_c1_n (l : List Int) (d : Int) : List Int × Int := (l.filter (fun x => !(x == d)), d)
theorem slices_DeleteFunc_int__i_MendStep_c1_ok (l : List Int) (d : Int) (hb : BdI c_slices_DeleteFunc_int__i_MendStep_c1.ins (l, (d, ()), ())) : slices_DeleteFunc_int__i_MendStep_c1 l d = some (slices_DeleteFunc_int__i_MendStep_c1_n l d) := by
  have hm : l.length ≤ maxLen := hb.1.1
  unfold slices_DeleteFunc_int__i_MendStep_c1 slices_DeleteFunc_int__i_MendStep_c1_t0 slices_DeleteFunc_int__i_MendStep_c1_n
  rcases idxF_cases (fun x => x == d) l 0 with ⟨h1, h2⟩ | ⟨k, h1, h2, h3⟩
  · simp only [h1, h2]
    rfl
  · have hk : ¬ ((0 + k : Nat) : Int) = -1 := by omega
    have e := loop_delete (L := fun r i j => slices_DeleteFunc_int__i_MendStep_c1_L1 r d (i : Int) (j : Int)) (n := l.length) (p := fun x => x == d) (e := fun r => some (r, d))
      (fun r i j h hij hr => by
        have hi : i < r.length := by omega
        have hrm : r.length ≤ maxLen := by rw [hr]; exact hm
        simp only [slices_DeleteFunc_int__i_MendStep_c1_u1 r d i j, slices_DeleteFunc_int__i_MendStep_c1_t1, rdk_get (k := kint) h, wrapS h hrm, wrapS hi hrm, Int.toNat_natCast]
        cases r[j] == d <;> simp [h, hi])
      (fun r i hi hr => by
        have h1 : ¬ (((l.length : Nat) : Int) < (r.length : Int)) := by omega
        have h2 : (i : Int) ≤ (r.length : Int) := by omega
        have h3 : (r.take i ++ List.replicate (r.length - i) (Kd.zero kint)).length = r.length := by simp; omega
        have h4 : (r.take i ++ List.replicate (r.length - i) (Kd.zero kint)).take i = r.take i := List.take_left' (by simp; omega)
        simp only [slices_DeleteFunc_int__i_MendStep_c1_u1 r d i l.length, slices_DeleteFunc_int__i_MendStep_c1_t1, Int.toNat_natCast, h3, h4, decide_eq_false h1, decide_eq_true h2, decide_eq_true (Int.natCast_nonneg i), cond_true, cond_false])
      _ (k + 1) l k rfl rfl (by omega) (by omega)
    simp only [Option.bind_some, h2]
    rw [← h3, beq_eq_false_iff_ne.2 hk, cond_false, Nat.zero_add, wrapS h1 hm]
    exact e
noncomputable def F_slices_DeleteFunc_int__i_MendStep_c1 : Ins c_slices_DeleteFunc_int__i_MendStep_c1.ins → (List Int × Int) := fun x => slices_DeleteFunc_int__i_MendStep_c1_n x.1 x.2.1.1
noncomputable def S_slices_DeleteFunc_int__i_MendStep_c1 : FSpec := mkT c_slices_DeleteFunc_int__i_MendStep_c1.env.pre c_slices_DeleteFunc_int__i_MendStep_c1.ins c_slices_DeleteFunc_int__i_MendStep_c1.out c_slices_DeleteFunc_int__i_MendStep_c1.inj F_slices_DeleteFunc_int__i_MendStep_c1
theorem h_slices_DeleteFunc_int__i_MendStep_c1 : Cert Tryz.prog 66 S_slices_DeleteFunc_int__i_MendStep_c1 := FnCx.certT (c := c_slices_DeleteFunc_int__i_MendStep_c1) F_slices_DeleteFunc_int__i_MendStep_c1 (tyOk _ _ _) (spOk ⟨h_slices_IndexFunc_int__i_MendStep_c1, fun _ _ h => h, ⟨h_i_MendStep_c1, fun _ _ h => h, trivial⟩⟩) (fun _ _ _ _ _ hs => noDr_ok) Tryz.func66 rfl rfl Tryz.ntmps66 (by kernel_rfl) rfl rfl (fun _ => rfl) slices_DeleteFunc_int__i_MendStep_c1_ts slices_DeleteFunc_int__i_MendStep_c1_hs (fun x hb => by
  obtain ⟨s0, ⟨del1_0, _⟩, _⟩ := x
  exact (slices_DeleteFunc_int__i_MendStep_c1_e s0 del1_0).trans (slices_DeleteFunc_int__i_MendStep_c1_ok s0 del1_0 hb))
/-! impl.MendStep -/
noncomputable def c_i_MendStep : FnCx := { env := env 25 [(19, S_i_AreStairs), (62, S_i_Stairs_isBroken), (51, S_i_Stairs_copied), (66, S_slices_DeleteFunc_int__i_MendStep_c1)] [], body := bodyOf Tryz.f29, res := [.cell 4 24, .tmp 5], ins := [.ro kStairs, .ro kint], out := [(kStairs, true), (kbool, true)], T := (Int × List Int × List Int) × Bool, fin := fun r => (r.1.1, r.1.2.1), inj := fun t => ((t.1, t.2, ()), ((), (), ())), pts := [], fuel := 400, dr := noDr }
noncomputable def i_MendStep (s0_Steps : Int) (s0_Strides : List Int) (s0_Broken : List Int) (step1 : Int) : Option ((Int × List Int × List Int) × Bool) :=
  bif !i_AreStairs s0_Steps s0_Strides s0_Broken then some ((0, [], []), false)
  else
    bif !i_Stairs_isBroken s0_Steps s0_Strides s0_Broken step1 then some ((0, [], []), false)
    else
      Option.bind (i_Stairs_copied s0_Steps s0_Strides s0_Broken) fun r =>
        some ((Prod.fst r, Prod.fst (Prod.snd r), List.filter (fun x => !x == step1) (Prod.snd (Prod.snd r))), true)
theorem i_MendStep_e (s0_Steps : Int) (s0_Strides : List Int) (s0_Broken : List Int) (step1 : Int) : c_i_MendStep.start c_i_MendStep.L ((s0_Steps, s0_Strides, s0_Broken), step1, ()) = i_MendStep s0_Steps s0_Strides s0_Broken step1 := by kernel_rfl
-- NICE tot
noncomputable def i_MendStep_n (a : Int) (b c : List Int) (k : Int) : (Int × List Int × List Int) × Bool := s_MendStep_n a b c k
theorem i_MendStep_ok (a : Int) (b c : List Int) (k : Int) (hb : BdI c_i_MendStep.ins ((a, b, c), k, ())) : i_MendStep a b c k = some (i_MendStep_n a b c k) := by
  unfold i_MendStep i_MendStep_n s_MendStep_n i_Stairs_isBroken
  rw [i_AreStairs_eq, slices_Contains_int_eq]
  cases hg : s_clGood a b c
  · rfl
  · have hl := s_clGood_len hg
    have hcp : i_Stairs_copied a b c = some (a, b, c) := by
      unfold i_Stairs_copied slices_Clone_int_n
      rw [decide_eq_true (by omega : b.length ≤ 4294967296), decide_eq_true (by omega : c.length ≤ 4294967296)]
      rfl
    cases hk : decide (k ∈ c)
    · rfl
    · simp [hcp, slices_DeleteFunc_int__i_MendStep_c1_n]
noncomputable def F_i_MendStep : Ins c_i_MendStep.ins → ((Int × List Int × List Int) × Bool) := fun x => i_MendStep_n x.1.1 x.1.2.1 x.1.2.2 x.2.1
noncomputable def S_i_MendStep : FSpec := mkT c_i_MendStep.env.pre c_i_MendStep.ins c_i_MendStep.out c_i_MendStep.inj F_i_MendStep
theorem h_i_MendStep : Cert Tryz.prog 29 S_i_MendStep := FnCx.certT (c := c_i_MendStep) F_i_MendStep (tyOk _ _ _) (spOk ⟨h_i_AreStairs, fun _ _ h => h, ⟨h_i_Stairs_isBroken, fun _ _ h => h, ⟨h_i_Stairs_copied, fun _ _ h => h, ⟨h_slices_DeleteFunc_int__i_MendStep_c1, fun _ _ h => h, trivial⟩⟩⟩⟩) (fun _ _ _ _ _ hs => noDr_ok) Tryz.func29 rfl rfl Tryz.ntmps29 (by kernel_rfl) rfl rfl (fun _ => rfl) trivial (fun x => .inl ⟨c_i_MendStep.start () x, fun _ => rfl⟩) (fun x hb => by
  obtain ⟨⟨s0_Steps, s0_Strides, s0_Broken⟩, step1, _⟩ := x
  exact (i_MendStep_e s0_Steps s0_Strides s0_Broken step1).trans (i_MendStep_ok s0_Steps s0_Strides s0_Broken step1 hb))
/-! strconv.Itoa -/
noncomputable def strconv_Itoa (n : Int) : Option ByteArray := itoaF n
noncomputable def F_strconv_Itoa : Ins [.ro kint] → Option ByteArray := fun x => strconv_Itoa x.1
noncomputable def S_strconv_Itoa : FSpec := mkF (T := ByteArray) textPre [.ro kint] [(.str, true)] (fun t => ((t, ()), ((), ()))) F_strconv_Itoa
theorem h_strconv_Itoa : Cert Tryz.prog 54 S_strconv_Itoa := itoa_cert litoa rfl ⟨_, Tryz.func54, rfl, by kernel_rfl⟩ (by simp [textL])
/-! strings.Join -/
theorem xjoin : Builder.Extra Tryz.prog ljoin_ren where
  sizeBuilder := by kernel_rfl
  liesBuilder := by kernel_rfl
  t5 := Tryz.underlying5
  a5 := Tryz.isAgg5
  z5 := Tryz.sizeOf5
  v5 := Tryz.zeroValue5
  infoByte := by kernel_rfl
  cellsByte := by kernel_rfl
  sizeByte := by kernel_rfl
  neB5 := by decide
noncomputable def strings_Join (xs : List ByteArray) (s : ByteArray) : Option ByteArray := joinF xs s
noncomputable def F_strings_Join : Ins [.ro kSstring, .ro kstring] → Option ByteArray := fun x => strings_Join x.1 x.2.1
noncomputable def S_strings_Join : FSpec := mkF (T := ByteArray) textPre [.ro kSstring, .ro kstring] [(.str, true)] (fun t => ((t, ()), ((), (), ()))) F_strings_Join
theorem h_strings_Join : Cert Tryz.prog 82 S_strings_Join := join_cert rfl ljoin xjoin rfl ⟨_, Tryz.func82, rfl, by kernel_rfl⟩
/-! impl.joined -/
noncomputable def c_i_joined : FnCx := { env := env 24 [(54, S_strconv_Itoa), (82, S_strings_Join)] [], body := bodyOf Tryz.f55, res := [.tmp 4], ins := [.ro kSint, .ro kstring], out := [(kstring, true)], T := ByteArray, fin := fun r => r.1.1, inj := fun t => ((t, ()), ((), (), ())), pts := [([.inLoop [1, 1, 0, 1, 0, 0], .inBlock 0, .code [1, 1, 1]], Shape.mk [Bs.row kstring 9 true, Bs.row kint 3 false] [(1, Ss.one (Cs.sc kstring)), (5, Ss.one (Cs.sl 0)), (9, Ss.one (Cs.sl 1)), (10, Ss.one (Cs.sc kint)), (11, Ss.one (Cs.sc kint))] [Ss.one (Cs.any), Ss.one (Cs.any)])], fuel := 400, dr := noDr }
noncomputable def i_joined_t1 (g1 : List (ByteArray) → List (Int) → ByteArray → Int → Int → Option (ByteArray)) (r0 : List (ByteArray)) (r1 : List (Int)) (between1 : ByteArray) (s10 : Int) (s11 : Int) : Option ByteArray :=
  bif decide (s11 < s10) then
    bif decide (0 ≤ s11) then
      bif decide (s11 < (↑(List.length r1) : Int)) then
        Option.bind (strconv_Itoa (rdk kint r1 s11)) fun r =>
          bif Nat.ble (List.length r0 + 1) 4294967296 then g1 (r0 ++ [r]) r1 between1 s10 (IntKind.wrap IntKind.i64 (s11 + 1)) else none
      else none
    else none
  else Option.bind (strings_Join r0 between1) fun r => some r
noncomputable def i_joined_t0 (g1 : List (ByteArray) → List (Int) → ByteArray → Int → Int → Option (ByteArray)) (l0 : List Int) (between1 : ByteArray) : Option ByteArray :=
  g1 [] l0 between1 (↑(List.length l0) : Int) 0
theorem i_joined_ts : Tails c_i_joined.pts c_i_joined.round :=
  ⟨fun s => by
    obtain ⟨⟨r0, r1, _⟩, ⟨between1, _, _, s10, s11, _⟩, ⟨_, _, _⟩⟩ := s
    refine Tail.eq (Y := fun g => i_joined_t1 (fun r0 r1 between1 s10 s11 => g.1 ((r0, r1, ()), (between1, (), (), s10, s11, ()), ((), (), ()))) r0 r1 between1 s10 s11) ?_ (fun g => by kernel_rfl)
    simp only [i_joined_t1]; repeat (first | exact Tail.const _ | exact Tail.here _ | exact Tail.there (Tail.here _) | exact Tail.there (Tail.there (Tail.here _)) | exact Tail.there (Tail.there (Tail.there (Tail.here _))) | exact Tail.there (Tail.there (Tail.there (Tail.there (Tail.here _)))) | exact Tail.there (Tail.there (Tail.there (Tail.there (Tail.there (Tail.here _))))) | apply Tail.cond | (apply Tail.bind; intro _)), trivial⟩
theorem i_joined_hs : ∀ x, Tail c_i_joined.pts (fun g => c_i_joined.start g x) := fun x => by
    obtain ⟨l0, between1, _⟩ := x
    refine Tail.eq (Y := fun g => i_joined_t0 (fun r0 r1 between1 s10 s11 => g.1 ((r0, r1, ()), (between1, (), (), s10, s11, ()), ((), (), ()))) l0 between1) ?_ (fun g => by kernel_rfl)
    simp only [i_joined_t0]; repeat (first | exact Tail.const _ | exact Tail.here _ | exact Tail.there (Tail.here _) | exact Tail.there (Tail.there (Tail.here _)) | exact Tail.there (Tail.there (Tail.there (Tail.here _))) | exact Tail.there (Tail.there (Tail.there (Tail.there (Tail.here _)))) | exact Tail.there (Tail.there (Tail.there (Tail.there (Tail.there (Tail.here _))))) | apply Tail.cond | (apply Tail.bind; intro _))
noncomputable def i_joined_L1 (r0 : List (ByteArray)) (r1 : List (Int)) (between1 : ByteArray) (s10 : Int) (s11 : Int) : Option ByteArray := c_i_joined.L.1 ((r0, r1, ()), (between1, (), (), s10, s11, ()), ((), (), ()))
theorem i_joined_u1 (r0 : List (ByteArray)) (r1 : List (Int)) (between1 : ByteArray) (s10 : Int) (s11 : Int) : i_joined_L1 r0 r1 between1 s10 s11 = i_joined_t1 i_joined_L1 r0 r1 between1 s10 s11 :=
  (congrArg (fun g => g.1 ((r0, r1, ()), (between1, (), (), s10, s11, ()), ((), (), ()))) (FnCx.L_eq i_joined_ts)).trans (by kernel_rfl)
noncomputable def i_joined (l0 : List Int) (between1 : ByteArray) : Option ByteArray := i_joined_t0 i_joined_L1 l0 between1
theorem i_joined_e (l0 : List Int) (between1 : ByteArray) : c_i_joined.start c_i_joined.L (l0, between1, ()) = i_joined l0 between1 := by kernel_rfl
noncomputable def F_i_joined : Ins c_i_joined.ins → Option ByteArray := fun x => i_joined x.1 x.2.1
noncomputable def S_i_joined : FSpec := mkF c_i_joined.env.pre c_i_joined.ins c_i_joined.out c_i_joined.inj F_i_joined
theorem h_i_joined : Cert Tryz.prog 55 S_i_joined := FnCx.certF (c := c_i_joined) F_i_joined (tyOk _ _ _) (spOk ⟨h_strconv_Itoa, fun _ _ h => h, ⟨h_strings_Join, fun _ _ h => h, trivial⟩⟩) (fun _ _ _ _ _ hs => noDr_ok) Tryz.func55 rfl rfl Tryz.ntmps55 (by kernel_rfl) rfl rfl (fun _ => rfl) i_joined_ts i_joined_hs (fun x t hb ht => by
  obtain ⟨l0, between1, _⟩ := x
  exact (i_joined_e l0 between1).trans ht)
/-! impl.StairsText -/
noncomputable def c_i_StairsText : FnCx := { env := env 27 [(19, S_i_AreStairs), (54, S_strconv_Itoa), (55, S_i_joined)] [], body := bodyOf Tryz.f15, res := [.tmp 2, .tmp 3], ins := [.ro kStairs], out := [(kstring, true), (kbool, true)], T := ByteArray × Bool, fin := fun r => (r.1.1, r.1.2.1), inj := fun t => ((t.1, t.2, ()), ((), ())), pts := [], fuel := 400, dr := evDr (env 27 [(19, S_i_AreStairs), (54, S_strconv_Itoa), (55, S_i_joined)] []) }
noncomputable def i_StairsText (s0_Steps : Int) (s0_Strides : List Int) (s0_Broken : List Int) : Option (ByteArray × Bool) :=
  bif !i_AreStairs s0_Steps s0_Strides s0_Broken then some ({ data := #[] }, false)
  else
    Option.bind (strconv_Itoa s0_Steps) fun r =>
      bif Nat.ble (ByteArray.size r + ByteArray.size { data := #[115] }) 9223372036854775807 then
        Option.bind (i_joined s0_Strides { data := #[44] }) fun r_1 =>
          bif Nat.ble (ByteArray.size (r ++ { data := #[115] }) + ByteArray.size r_1) 9223372036854775807 then
            bif decide ((↑(List.length s0_Broken) : Int) > 0) then
              Option.bind (i_joined s0_Broken { data := #[44] }) fun r_2 =>
                bif Nat.ble (ByteArray.size { data := #[120] } + ByteArray.size r_2) 9223372036854775807 then
                  bif Nat.ble (ByteArray.size (r ++ { data := #[115] } ++ r_1) + ByteArray.size ({ data := #[120] } ++ r_2)) 9223372036854775807 then
                    some (r ++ { data := #[115] } ++ r_1 ++ ({ data := #[120] } ++ r_2), true)
                  else none
                else none
            else some (r ++ { data := #[115] } ++ r_1, true)
          else none
      else none
theorem i_StairsText_e (s0_Steps : Int) (s0_Strides : List Int) (s0_Broken : List Int) : c_i_StairsText.start c_i_StairsText.L ((s0_Steps, s0_Strides, s0_Broken), ()) = i_StairsText s0_Steps s0_Strides s0_Broken := by kernel_rfl
noncomputable def F_i_StairsText : Ins c_i_StairsText.ins → Option (ByteArray × Bool) := fun x => i_StairsText x.1.1 x.1.2.1 x.1.2.2
noncomputable def S_i_StairsText : FSpec := mkF c_i_StairsText.env.pre c_i_StairsText.ins c_i_StairsText.out c_i_StairsText.inj F_i_StairsText
theorem h_i_StairsText : Cert Tryz.prog 15 S_i_StairsText := FnCx.certF (c := c_i_StairsText) F_i_StairsText (tyOk _ _ _) (spOk ⟨h_i_AreStairs, fun _ _ h => h, ⟨h_strconv_Itoa, fun _ _ h => h, ⟨h_i_joined, fun _ _ h => h, trivial⟩⟩⟩) (fun _ _ _ _ _ hs => evDr_ok (tyOk _ _ _) hs follows) Tryz.func15 rfl rfl Tryz.ntmps15 (by kernel_rfl) rfl rfl (fun _ => rfl) trivial (fun x => .inl ⟨c_i_StairsText.start () x, fun _ => rfl⟩) (fun x t hb ht => by
  obtain ⟨⟨s0_Steps, s0_Strides, s0_Broken⟩, _⟩ := x
  exact (i_StairsText_e s0_Steps s0_Strides s0_Broken).trans ht)
/-! spec.l1Num -/
noncomputable def SR_s_l1Num (RR : Int → Option (ByteArray)) : FSpec := mkF (T := ByteArray) textPre [.ro kint] [(kstring, true)] (fun t => ((t, ()), ((), ()))) (fun x => RR x.1)
noncomputable def c_s_l1Num (RR : Int → Option (ByteArray)) : FnCx := { env := env 20 [(83, SR_s_l1Num RR)] [], body := bodyOf Tryz.f83, res := [.tmp 2], ins := [.ro kint], out := [(kstring, true)], T := ByteArray, fin := fun r => r.1.1, inj := fun t => ((t, ()), ((), ())), pts := [], fuel := 400, dr := evDr (env 20 [(83, SR_s_l1Num RR)] []) }
noncomputable def s_l1Num (RR : Int → Option (ByteArray)) (n0 : Int) : Option ByteArray :=
  bif decide (n0 < 10) then
    some (List.foldl (fun r n => ByteArray.push r (UInt8.ofNat (Int.toNat n))) ByteArray.empty [IntKind.wrap IntKind.u8 (IntKind.wrap IntKind.i64 (48 + n0))])
  else
    Option.bind (RR (IntKind.wrap IntKind.i64 (Int.tdiv n0 10))) fun r =>
      bif
          Nat.ble
            (ByteArray.size r +
              ByteArray.size
                (List.foldl (fun r n => ByteArray.push r (UInt8.ofNat (Int.toNat n))) ByteArray.empty
                  [IntKind.wrap IntKind.u8 (IntKind.wrap IntKind.i64 (48 + Int.tmod n0 10))]))
            9223372036854775807 then
        some
          (r ++
            List.foldl (fun r n => ByteArray.push r (UInt8.ofNat (Int.toNat n))) ByteArray.empty
              [IntKind.wrap IntKind.u8 (IntKind.wrap IntKind.i64 (48 + Int.tmod n0 10))])
      else none
theorem s_l1Num_e (RR : Int → Option (ByteArray)) (n0 : Int) : (c_s_l1Num RR).start (c_s_l1Num RR).L (n0, ()) = (s_l1Num RR) n0 := by kernel_rfl
noncomputable def s_l1Num_it : Nat → Int → Option (ByteArray) := fun n => Nat.rec (fun _ => none) (fun _ RR => s_l1Num RR) n
theorem s_l1Num_is (n : Nat) (n0 : Int) : s_l1Num_it (n + 1) n0 = s_l1Num (s_l1Num_it n) n0 := rfl
theorem hh_s_l1Num : ∀ n, Cert Tryz.prog 83 (SR_s_l1Num (s_l1Num_it n))
  | 0 => cert_none Tryz.func83 rfl (by kernel_rfl) rfl rfl
  | n + 1 => FnCx.certF (c := c_s_l1Num (s_l1Num_it n)) (fun x => s_l1Num_it (n + 1) x.1) (tyOk _ _ _) (spOk ⟨hh_s_l1Num n, fun _ _ h => h, trivial⟩) (fun _ _ _ _ _ hs => evDr_ok (tyOk _ _ _) hs follows) Tryz.func83 rfl rfl Tryz.ntmps83 (by kernel_rfl) rfl rfl (fun _ => rfl) trivial (fun x => .inl ⟨(c_s_l1Num (s_l1Num_it n)).start () x, fun _ => rfl⟩) (fun x t hb ht => by
    obtain ⟨n0, _⟩ := x
    exact (s_l1Num_e (s_l1Num_it n) n0).trans ht)
-- NICE rec
theorem wrapU8 {n : Int} (h1 : 0 ≤ n) (h2 : n ≤ 255) : IntKind.wrap .u8 n = n := by
  unfold IntKind.wrap
  simp [IntKind.signed, IntKind.bits]
  omega
theorem bytes_app (a b : List UInt8) : (⟨a.toArray⟩ : ByteArray) ++ ⟨b.toArray⟩ = ⟨(a ++ b).toArray⟩ := ByteArray.ext (by rw [ByteArray.data_append]; simp)
theorem dec_len : ∀ u : Nat, (Lib.decDigits u).length ≤ u + 1 := by
  intro u
  induction u using Nat.strongRecOn with
  | ind u ih =>
    rw [Lib.decDigits]
    by_cases h : u < 10
    · rw [dif_pos h]; simp
    · rw [dif_neg h]
      have := ih (u / 10) (by omega)
      rw [List.length_append, List.length_singleton]; omega
theorem itoa_nat (n : Nat) : Lib.itoa (n : Int) = Lib.decDigits n := by
  unfold Lib.itoa
  rw [if_neg (by omega), Int.toNat_natCast]
theorem digit_eq {m : Nat} (h : m < 10) : List.foldl (fun r n => ByteArray.push r (UInt8.ofNat (Int.toNat n))) ByteArray.empty [IntKind.wrap .u8 (IntKind.wrap .i64 (48 + (m : Int)))] = ⟨([UInt8.ofNat (48 + m)] : List UInt8).toArray⟩ := by
  rw [wrapI (n := 48 + (m : Int)) (by omega) (by omega), wrapU8 (by omega) (by omega), show (48 + (m : Int)) = ((48 + m : Nat) : Int) by omega]
  simp only [List.foldl_cons, List.foldl_nil, Int.toNat_natCast]
  rfl
theorem num_it : ∀ (k n : Nat), n < k → n ≤ 4000000000000000000 → s_l1Num_it k (n : Int) = some ⟨(Lib.decDigits n).toArray⟩
  | 0, n, h, _ => by omega
  | k + 1, n, h, hn => by
    rw [s_l1Num_is, s_l1Num]
    by_cases h10 : n < 10
    · rw [decide_eq_true (show (n : Int) < 10 by omega), cond_true, digit_eq h10, Lib.decDigits, dif_pos h10]
    · have hm : Int.tmod (n : Int) 10 = ((n % 10 : Nat) : Int) := by rw [Int.tmod_eq_emod_of_nonneg (by omega)]; rfl
      have hd : Int.tdiv (n : Int) 10 = ((n / 10 : Nat) : Int) := by rw [Int.tdiv_eq_ediv_of_nonneg (by omega)]; rfl
      have ih := num_it k (n / 10) (by omega) (by omega)
      have hl := dec_len (n / 10)
      rw [decide_eq_false (show ¬ (n : Int) < 10 by omega), cond_false, hd, hm, wrapI (n := ((n / 10 : Nat) : Int)) (by omega) (by omega), ih, Option.bind_some, digit_eq (Nat.mod_lt n (by omega)), ble_dec, decide_eq_true, cond_true, bytes_app, Lib.decDigits.eq_def n, dif_neg h10]
      show (Lib.decDigits (n / 10)).toArray.size + 1 ≤ _
      simp; omega
noncomputable def s_l1Num_n (n : Int) : Option ByteArray := bif decide (0 ≤ n) && decide (n ≤ 4000000000000000000) then some ⟨(Lib.itoa n).toArray⟩ else none
theorem s_l1Num_ok (n : Int) (t : ByteArray) (h : s_l1Num_n n = some t) : ∃ k, s_l1Num_it k n = some t := by
  unfold s_l1Num_n at h
  cases hc : decide (0 ≤ n) && decide (n ≤ 4000000000000000000)
  · rw [hc] at h; cases h
  · rw [hc, cond_true] at h
    cases h
    rw [Bool.and_eq_true, decide_eq_true_eq, decide_eq_true_eq] at hc
    obtain ⟨m, rfl⟩ := Int.eq_ofNat_of_zero_le hc.1
    exact ⟨m + 1, by rw [num_it (m + 1) m (by omega) (by omega), itoa_nat]⟩
noncomputable def F_s_l1Num : Ins [.ro kint] → Option ByteArray := fun x => s_l1Num_n x.1
noncomputable def S_s_l1Num : FSpec := mkF (T := ByteArray) textPre [.ro kint] [(kstring, true)] (fun t => ((t, ()), ((), ()))) F_s_l1Num
theorem h_s_l1Num : Cert Tryz.prog 83 S_s_l1Num := cert_lim hh_s_l1Num (fun x t hb ht => by
  obtain ⟨n0, _⟩ := x
  exact s_l1Num_ok n0 t ht)
/-! spec.clList -/
noncomputable def c_s_clList : FnCx := { env := env 23 [(83, S_s_l1Num)] [], body := bodyOf Tryz.f84, res := [.tmp 2], ins := [.ro kSint], out := [(kstring, true)], T := ByteArray, fin := fun r => r.1.1, inj := fun t => ((t, ()), ((), ())), pts := [([.inLoop [1, 1, 0, 1, 0, 0], .inBlock 0, .code [1, 1, 1]], Shape.mk [Bs.row kint 3 false] [(3, Ss.one (Cs.sc kstring)), (6, Ss.one (Cs.sl 0)), (7, Ss.one (Cs.sc kint)), (8, Ss.one (Cs.sc kint))] [Ss.one (Cs.any)])], fuel := 400, dr := noDr }
noncomputable def s_clList_t1 (g1 : List (Int) → ByteArray → Int → Int → Option (ByteArray)) (r0 : List (Int)) (out3 : ByteArray) (s7 : Int) (s8 : Int) : Option ByteArray :=
  bif decide (s8 < s7) then
    bif decide (0 ≤ s8) then
      bif decide (s8 < (↑(List.length r0) : Int)) then
        bif decide (s8 > 0) then
          bif Nat.ble (ByteArray.size out3 + ByteArray.size { data := #[44] }) 9223372036854775807 then
            Option.bind (s_l1Num_n (rdk kint r0 s8)) fun r =>
              bif Nat.ble (ByteArray.size (out3 ++ { data := #[44] }) + ByteArray.size r) 9223372036854775807 then
                g1 r0 (out3 ++ { data := #[44] } ++ r) s7 (IntKind.wrap IntKind.i64 (s8 + 1))
              else none
          else none
        else
          Option.bind (s_l1Num_n (rdk kint r0 s8)) fun r =>
            bif Nat.ble (ByteArray.size out3 + ByteArray.size r) 9223372036854775807 then g1 r0 (out3 ++ r) s7 (IntKind.wrap IntKind.i64 (s8 + 1)) else none
      else none
    else none
  else some out3
noncomputable def s_clList_t0 (g1 : List (Int) → ByteArray → Int → Int → Option (ByteArray)) (list0 : List Int) : Option ByteArray :=
  g1 list0 { data := #[] } (↑(List.length list0) : Int) 0
theorem s_clList_ts : Tails c_s_clList.pts c_s_clList.round :=
  ⟨fun s => by
    obtain ⟨⟨r0, _⟩, ⟨out3, _, s7, s8, _⟩, ⟨_, _⟩⟩ := s
    refine Tail.eq (Y := fun g => s_clList_t1 (fun r0 out3 s7 s8 => g.1 ((r0, ()), (out3, (), s7, s8, ()), ((), ()))) r0 out3 s7 s8) ?_ (fun g => by kernel_rfl)
    simp only [s_clList_t1]; repeat (first | apply Tail.cond | (apply Tail.bind; intro _) | exact Tail.here _ | exact Tail.there (Tail.here _) | exact Tail.there (Tail.there (Tail.here _)) | exact Tail.there (Tail.there (Tail.there (Tail.here _))) | exact Tail.there (Tail.there (Tail.there (Tail.there (Tail.here _)))) | exact Tail.there (Tail.there (Tail.there (Tail.there (Tail.there (Tail.here _))))) | exact Tail.const _), trivial⟩
theorem s_clList_hs : ∀ x, Tail c_s_clList.pts (fun g => c_s_clList.start g x) := fun x => by
    obtain ⟨list0, _⟩ := x
    refine Tail.eq (Y := fun g => s_clList_t0 (fun r0 out3 s7 s8 => g.1 ((r0, ()), (out3, (), s7, s8, ()), ((), ()))) list0) ?_ (fun g => by kernel_rfl)
    simp only [s_clList_t0]; repeat (first | apply Tail.cond | (apply Tail.bind; intro _) | exact Tail.here _ | exact Tail.there (Tail.here _) | exact Tail.there (Tail.there (Tail.here _)) | exact Tail.there (Tail.there (Tail.there (Tail.here _))) | exact Tail.there (Tail.there (Tail.there (Tail.there (Tail.here _)))) | exact Tail.there (Tail.there (Tail.there (Tail.there (Tail.there (Tail.here _))))) | exact Tail.const _)
noncomputable def s_clList_L1 (r0 : List (Int)) (out3 : ByteArray) (s7 : Int) (s8 : Int) : Option ByteArray := c_s_clList.L.1 ((r0, ()), (out3, (), s7, s8, ()), ((), ()))
theorem s_clList_u1 (r0 : List (Int)) (out3 : ByteArray) (s7 : Int) (s8 : Int) : s_clList_L1 r0 out3 s7 s8 = s_clList_t1 s_clList_L1 r0 out3 s7 s8 :=
  (congrArg (fun g => g.1 ((r0, ()), (out3, (), s7, s8, ()), ((), ()))) (FnCx.L_eq s_clList_ts)).trans (by kernel_rfl)
noncomputable def s_clList (list0 : List Int) : Option ByteArray := s_clList_t0 s_clList_L1 list0
theorem s_clList_e (list0 : List Int) : c_s_clList.start c_s_clList.L (list0, ()) = s_clList list0 := by kernel_rfl
noncomputable def F_s_clList : Ins c_s_clList.ins → Option ByteArray := fun x => s_clList x.1
noncomputable def S_s_clList : FSpec := mkF c_s_clList.env.pre c_s_clList.ins c_s_clList.out c_s_clList.inj F_s_clList
theorem h_s_clList : Cert Tryz.prog 84 S_s_clList := FnCx.certF (c := c_s_clList) F_s_clList (tyOk _ _ _) (spOk ⟨h_s_l1Num, fun _ _ h => h, trivial⟩) (fun _ _ _ _ _ hs => noDr_ok) Tryz.func84 rfl rfl Tryz.ntmps84 (by kernel_rfl) rfl rfl (fun _ => rfl) s_clList_ts s_clList_hs (fun x t hb ht => by
  obtain ⟨list0, _⟩ := x
  exact (s_clList_e list0).trans ht)
/-! spec.clText -/
noncomputable def c_s_clText : FnCx := { env := env 23 [(83, S_s_l1Num), (84, S_s_clList)] [], body := bodyOf Tryz.f56, res := [.tmp 2], ins := [.ro kStairs], out := [(kstring, true)], T := ByteArray, fin := fun r => r.1.1, inj := fun t => ((t, ()), ((), ())), pts := [], fuel := 400, dr := evDr (env 23 [(83, S_s_l1Num), (84, S_s_clList)] []) }
noncomputable def s_clText (s0_Steps : Int) (s0_Strides : List Int) (s0_Broken : List Int) : Option ByteArray :=
  Option.bind (s_l1Num_n s0_Steps) fun r =>
    bif Nat.ble (ByteArray.size r + ByteArray.size { data := #[115] }) 9223372036854775807 then
      Option.bind (s_clList s0_Strides) fun r_1 =>
        bif Nat.ble (ByteArray.size (r ++ { data := #[115] }) + ByteArray.size r_1) 9223372036854775807 then
          bif decide ((↑(List.length s0_Broken) : Int) > 0) then
            Option.bind (s_clList s0_Broken) fun r_2 =>
              bif Nat.ble (ByteArray.size { data := #[120] } + ByteArray.size r_2) 9223372036854775807 then
                bif Nat.ble (ByteArray.size (r ++ { data := #[115] } ++ r_1) + ByteArray.size ({ data := #[120] } ++ r_2)) 9223372036854775807 then
                  some (r ++ { data := #[115] } ++ r_1 ++ ({ data := #[120] } ++ r_2))
                else none
              else none
          else some (r ++ { data := #[115] } ++ r_1)
        else none
    else none
theorem s_clText_e (s0_Steps : Int) (s0_Strides : List Int) (s0_Broken : List Int) : c_s_clText.start c_s_clText.L ((s0_Steps, s0_Strides, s0_Broken), ()) = s_clText s0_Steps s0_Strides s0_Broken := by kernel_rfl
noncomputable def F_s_clText : Ins c_s_clText.ins → Option ByteArray := fun x => s_clText x.1.1 x.1.2.1 x.1.2.2
noncomputable def S_s_clText : FSpec := mkF c_s_clText.env.pre c_s_clText.ins c_s_clText.out c_s_clText.inj F_s_clText
theorem h_s_clText : Cert Tryz.prog 56 S_s_clText := FnCx.certF (c := c_s_clText) F_s_clText (tyOk _ _ _) (spOk ⟨h_s_l1Num, fun _ _ h => h, ⟨h_s_clList, fun _ _ h => h, trivial⟩⟩) (fun _ _ _ _ _ hs => evDr_ok (tyOk _ _ _) hs follows) Tryz.func56 rfl rfl Tryz.ntmps56 (by kernel_rfl) rfl rfl (fun _ => rfl) trivial (fun x => .inl ⟨c_s_clText.start () x, fun _ => rfl⟩) (fun x t hb ht => by
  obtain ⟨⟨s0_Steps, s0_Strides, s0_Broken⟩, _⟩ := x
  exact (s_clText_e s0_Steps s0_Strides s0_Broken).trans ht)
/-! spec.StairsText -/
noncomputable def c_s_StairsText : FnCx := { env := env 9 [(41, S_s_clGood), (56, S_s_clText)] [], body := bodyOf Tryz.f16, res := [.tmp 2, .tmp 3], ins := [.ro kStairs], out := [(kstring, true), (kbool, true)], T := ByteArray × Bool, fin := fun r => (r.1.1, r.1.2.1), inj := fun t => ((t.1, t.2, ()), ((), ())), pts := [], fuel := 400, dr := noDr }
noncomputable def s_StairsText (s0_Steps : Int) (s0_Strides : List Int) (s0_Broken : List Int) : Option (ByteArray × Bool) :=
  bif !s_clGood s0_Steps s0_Strides s0_Broken then some ({ data := #[] }, false) else Option.bind (s_clText s0_Steps s0_Strides s0_Broken) fun r => some (r, true)
theorem s_StairsText_e (s0_Steps : Int) (s0_Strides : List Int) (s0_Broken : List Int) : c_s_StairsText.start c_s_StairsText.L ((s0_Steps, s0_Strides, s0_Broken), ()) = s_StairsText s0_Steps s0_Strides s0_Broken := by kernel_rfl
noncomputable def F_s_StairsText : Ins c_s_StairsText.ins → Option (ByteArray × Bool) := fun x => s_StairsText x.1.1 x.1.2.1 x.1.2.2
noncomputable def S_s_StairsText : FSpec := mkF c_s_StairsText.env.pre c_s_StairsText.ins c_s_StairsText.out c_s_StairsText.inj F_s_StairsText
theorem h_s_StairsText : Cert Tryz.prog 16 S_s_StairsText := FnCx.certF (c := c_s_StairsText) F_s_StairsText (tyOk _ _ _) (spOk ⟨h_s_clGood, fun _ _ h => h, ⟨h_s_clText, fun _ _ h => h, trivial⟩⟩) (fun _ _ _ _ _ hs => noDr_ok) Tryz.func16 rfl rfl Tryz.ntmps16 (by kernel_rfl) rfl rfl (fun _ => rfl) trivial (fun x => .inl ⟨c_s_StairsText.start () x, fun _ => rfl⟩) (fun x t hb ht => by
  obtain ⟨⟨s0_Steps, s0_Strides, s0_Broken⟩, _⟩ := x
  exact (s_StairsText_e s0_Steps s0_Strides s0_Broken).trans ht)
/-! strings.Cut -/
noncomputable def strings_Cut (s sep : ByteArray) : Option (ByteArray × ByteArray × Bool) := cutF s sep
noncomputable def F_strings_Cut : Ins [.ro kstring, .ro kstring] → Option (ByteArray × ByteArray × Bool) := fun x => strings_Cut x.1 x.2.1
noncomputable def S_strings_Cut : FSpec := mkF (T := ByteArray × ByteArray × Bool) textPre [.ro kstring, .ro kstring] [(.str, true), (.str, true), (.bool, true)] (fun t => ((t.1, t.2.1, t.2.2, ()), ((), (), ()))) F_strings_Cut
theorem h_strings_Cut : Cert Tryz.prog 59 S_strings_Cut := cut_cert (show Lays.n145 Tryz.prog lcut_ren from { lcut with }) rfl ⟨_, Tryz.func59, rfl, by kernel_rfl⟩ (by simp [textL]) (by kernel_rfl)
/-! strconv.Atoi -/
noncomputable def strconv_Atoi (s : ByteArray) : Option (Int × Bool) := atoiF s
noncomputable def F_strconv_Atoi : Ins [.ro kstring] → Option (Int × Bool) := fun x => strconv_Atoi x.1
noncomputable def S_strconv_Atoi : FSpec := mkF (T := Int × Bool) textPre [.ro kstring] [(.int .i64, true), (.err, true)] (fun t => ((t.1, t.2, ()), ((), ()))) F_strconv_Atoi
theorem h_strconv_Atoi : Cert Tryz.prog 86 S_strconv_Atoi := atoi_cert rfl latoi rfl ⟨_, Tryz.func86, rfl, by kernel_rfl⟩ (by simp [textL]) (by kernel_rfl) (by simp [textL]) (by kernel_rfl)
/-! impl.num -/
noncomputable def c_i_num : FnCx := { env := env 27 [(86, S_strconv_Atoi), (54, S_strconv_Itoa)] [], body := bodyOf Tryz.f60, res := [.tmp 2], ins := [.ro kstring], out := [(kint, true)], T := Int, fin := fun r => r.1.1, inj := fun t => ((t, ()), ((), ())), pts := [], fuel := 400, dr := noDr }
noncomputable def i_num (s0 : ByteArray) : Option Int :=
  Option.bind (strconv_Atoi s0) fun r =>
    bif !Prod.snd r then some (-1)
    else
      bif decide (Prod.fst r < 0) then some (-1)
      else
        bif decide (Prod.fst r > 999999) then some (-1)
        else Option.bind (strconv_Itoa (Prod.fst r)) fun r_1 => bif !ByteArray.toList r_1 == ByteArray.toList s0 then some (-1) else some (Prod.fst r)
theorem i_num_e (s0 : ByteArray) : c_i_num.start c_i_num.L (s0, ()) = i_num s0 := by kernel_rfl
noncomputable def F_i_num : Ins c_i_num.ins → Option Int := fun x => i_num x.1
noncomputable def S_i_num : FSpec := mkF c_i_num.env.pre c_i_num.ins c_i_num.out c_i_num.inj F_i_num
theorem h_i_num : Cert Tryz.prog 60 S_i_num := FnCx.certF (c := c_i_num) F_i_num (tyOk _ _ _) (spOk ⟨h_strconv_Atoi, fun _ _ h => h, ⟨h_strconv_Itoa, fun _ _ h => h, trivial⟩⟩) (fun _ _ _ _ _ hs => noDr_ok) Tryz.func60 rfl rfl Tryz.ntmps60 (by kernel_rfl) rfl rfl (fun _ => rfl) trivial (fun x => .inl ⟨c_i_num.start () x, fun _ => rfl⟩) (fun x t hb ht => by
  obtain ⟨s0, _⟩ := x
  exact (i_num_e s0).trans ht)
/-! strings.Split -/
noncomputable def strings_Split (s sep : ByteArray) : Option (List ByteArray) := splitF s sep
noncomputable def F_strings_Split : Ins [.ro kstring, .ro kstring] → Option (List ByteArray) := fun x => strings_Split x.1 x.2.1
noncomputable def S_strings_Split : FSpec := mkF (T := List ByteArray) textPre [.ro kstring, .ro kstring] [(kSstring, true)] (fun t => ((t, ()), ((), (), ()))) F_strings_Split
theorem h_strings_Split : Cert Tryz.prog 87 S_strings_Split := split_cert (show Lays.n146 Tryz.prog lsplit_ren from { lsplit with }) (by kernel_rfl) rfl rfl ⟨_, Tryz.func87, rfl, by kernel_rfl⟩ (by simp [textL]) (by kernel_rfl)
/-! impl.nums -/
noncomputable def c_i_nums : FnCx := { env := env 29 [(87, S_strings_Split), (60, S_i_num)] [], body := bodyOf Tryz.f61, res := [.tmp 4, .tmp 5], ins := [.ro kstring, .ro kstring], out := [(kSint, true), (kbool, true)], T := List Int × Bool, fin := fun r => (r.1.1, r.1.2.1), inj := fun t => ((t.1, t.2, ()), ((), (), ())), pts := [([.inLoop [1, 1, 0, 1, 0, 0], .inBlock 0, .code [1, 1, 1]], Shape.mk [Bs.row kint 3 true, Bs.row kstring 9 true] [(6, Ss.one (Cs.sl 0)), (13, Ss.one (Cs.sl 1)), (14, Ss.one (Cs.sc kint)), (15, Ss.one (Cs.sc kint))] [Ss.one (Cs.any), Ss.one (Cs.any)])], fuel := 400, dr := noDr }
noncomputable def i_nums_t1 (g1 : List (Int) → List (ByteArray) → Int → Int → Option (List Int × Bool)) (r0 : List (Int)) (r1 : List (ByteArray)) (s14 : Int) (s15 : Int) : Option (List Int × Bool) :=
  bif decide (s15 < s14) then
    bif decide (0 ≤ s15) then
      bif decide (s15 < (↑(List.length r1) : Int)) then
        Option.bind (i_num (rdk kstring r1 s15)) fun r =>
          bif decide (r < 0) then some ([], false)
          else bif Nat.ble (List.length r0 + 1) 4294967296 then g1 (r0 ++ [r]) r1 s14 (IntKind.wrap IntKind.i64 (s15 + 1)) else none
      else none
    else none
  else some (r0, true)
noncomputable def i_nums_t0 (g1 : List (Int) → List (ByteArray) → Int → Int → Option (List Int × Bool)) (s0 : ByteArray) (between1 : ByteArray) : Option (List Int × Bool) :=
  Option.bind (strings_Split s0 between1) fun r => g1 [] r (↑(List.length r) : Int) 0
theorem i_nums_ts : Tails c_i_nums.pts c_i_nums.round :=
  ⟨fun s => by
    obtain ⟨⟨r0, r1, _⟩, ⟨_, _, s14, s15, _⟩, ⟨_, _, _⟩⟩ := s
    refine Tail.eq (Y := fun g => i_nums_t1 (fun r0 r1 s14 s15 => g.1 ((r0, r1, ()), ((), (), s14, s15, ()), ((), (), ()))) r0 r1 s14 s15) ?_ (fun g => by kernel_rfl)
    simp only [i_nums_t1]; repeat (first | exact Tail.const _ | exact Tail.here _ | exact Tail.there (Tail.here _) | exact Tail.there (Tail.there (Tail.here _)) | exact Tail.there (Tail.there (Tail.there (Tail.here _))) | exact Tail.there (Tail.there (Tail.there (Tail.there (Tail.here _)))) | exact Tail.there (Tail.there (Tail.there (Tail.there (Tail.there (Tail.here _))))) | apply Tail.cond | (apply Tail.bind; intro _)), trivial⟩
theorem i_nums_hs : ∀ x, Tail c_i_nums.pts (fun g => c_i_nums.start g x) := fun x => by
    obtain ⟨s0, between1, _⟩ := x
    refine Tail.eq (Y := fun g => i_nums_t0 (fun r0 r1 s14 s15 => g.1 ((r0, r1, ()), ((), (), s14, s15, ()), ((), (), ()))) s0 between1) ?_ (fun g => by kernel_rfl)
    simp only [i_nums_t0]; repeat (first | exact Tail.const _ | exact Tail.here _ | exact Tail.there (Tail.here _) | exact Tail.there (Tail.there (Tail.here _)) | exact Tail.there (Tail.there (Tail.there (Tail.here _))) | exact Tail.there (Tail.there (Tail.there (Tail.there (Tail.here _)))) | exact Tail.there (Tail.there (Tail.there (Tail.there (Tail.there (Tail.here _))))) | apply Tail.cond | (apply Tail.bind; intro _))
noncomputable def i_nums_L1 (r0 : List (Int)) (r1 : List (ByteArray)) (s14 : Int) (s15 : Int) : Option (List Int × Bool) := c_i_nums.L.1 ((r0, r1, ()), ((), (), s14, s15, ()), ((), (), ()))
theorem i_nums_u1 (r0 : List (Int)) (r1 : List (ByteArray)) (s14 : Int) (s15 : Int) : i_nums_L1 r0 r1 s14 s15 = i_nums_t1 i_nums_L1 r0 r1 s14 s15 :=
  (congrArg (fun g => g.1 ((r0, r1, ()), ((), (), s14, s15, ()), ((), (), ()))) (FnCx.L_eq i_nums_ts)).trans (by kernel_rfl)
noncomputable def i_nums (s0 : ByteArray) (between1 : ByteArray) : Option (List Int × Bool) := i_nums_t0 i_nums_L1 s0 between1
theorem i_nums_e (s0 : ByteArray) (between1 : ByteArray) : c_i_nums.start c_i_nums.L (s0, between1, ()) = i_nums s0 between1 := by kernel_rfl
noncomputable def F_i_nums : Ins c_i_nums.ins → Option (List Int × Bool) := fun x => i_nums x.1 x.2.1
noncomputable def S_i_nums : FSpec := mkF c_i_nums.env.pre c_i_nums.ins c_i_nums.out c_i_nums.inj F_i_nums
theorem h_i_nums : Cert Tryz.prog 61 S_i_nums := FnCx.certF (c := c_i_nums) F_i_nums (tyOk _ _ _) (spOk ⟨h_strings_Split, fun _ _ h => h, ⟨h_i_num, fun _ _ h => h, trivial⟩⟩) (fun _ _ _ _ _ hs => noDr_ok) Tryz.func61 rfl rfl Tryz.ntmps61 (by kernel_rfl) rfl rfl (fun _ => rfl) i_nums_ts i_nums_hs (fun x t hb ht => by
  obtain ⟨s0, between1, _⟩ := x
  exact (i_nums_e s0 between1).trans ht)
/-! impl.ParseStairs -/
noncomputable def c_i_ParseStairs : FnCx := { env := env 53 [(59, S_strings_Cut), (60, S_i_num), (61, S_i_nums), (19, S_i_AreStairs)] [], body := bodyOf Tryz.f21, res := [.cell 2 24, .tmp 3], ins := [.ro kstring], out := [(kStairs, true), (kbool, true)], T := (Int × List Int × List Int) × Bool, fin := fun r => (r.1.1, r.1.2.1), inj := fun t => ((t.1, t.2, ()), ((), ())), pts := [], fuel := 400, dr := noDr }
noncomputable def i_ParseStairs (t0 : ByteArray) : Option ((Int × List Int × List Int) × Bool) :=
  Option.bind (strings_Cut t0 { data := #[115] }) fun r =>
    Option.bind (strings_Cut (Prod.fst (Prod.snd r)) { data := #[120] }) fun r_1 =>
      Option.bind (i_num (Prod.fst r)) fun r_2 =>
        bif !Prod.snd (Prod.snd r) then some ((0, [], []), false)
        else
          Option.bind (i_nums (Prod.fst r_1) { data := #[44] }) fun r =>
            bif !Prod.snd r then some ((0, [], []), false)
            else
              bif Prod.snd (Prod.snd r_1) then
                Option.bind (i_nums (Prod.fst (Prod.snd r_1)) { data := #[44] }) fun r_3 =>
                  bif !Prod.snd r_3 then some ((0, [], []), false)
                  else bif !i_AreStairs r_2 (Prod.fst r) (Prod.fst r_3) then some ((0, [], []), false) else some ((r_2, Prod.fst r, Prod.fst r_3), true)
              else bif !i_AreStairs r_2 (Prod.fst r) [] then some ((0, [], []), false) else some ((r_2, Prod.fst r, []), true)
theorem i_ParseStairs_e (t0 : ByteArray) : c_i_ParseStairs.start c_i_ParseStairs.L (t0, ()) = i_ParseStairs t0 := by kernel_rfl
noncomputable def F_i_ParseStairs : Ins c_i_ParseStairs.ins → Option ((Int × List Int × List Int) × Bool) := fun x => i_ParseStairs x.1
noncomputable def S_i_ParseStairs : FSpec := mkF c_i_ParseStairs.env.pre c_i_ParseStairs.ins c_i_ParseStairs.out c_i_ParseStairs.inj F_i_ParseStairs
theorem h_i_ParseStairs : Cert Tryz.prog 21 S_i_ParseStairs := FnCx.certF (c := c_i_ParseStairs) F_i_ParseStairs (tyOk _ _ _) (spOk ⟨h_strings_Cut, fun _ _ h => h, ⟨h_i_num, fun _ _ h => h, ⟨h_i_nums, fun _ _ h => h, ⟨h_i_AreStairs, fun _ _ h => h, trivial⟩⟩⟩⟩) (fun _ _ _ _ _ hs => noDr_ok) Tryz.func21 rfl rfl Tryz.ntmps21 (by kernel_rfl) rfl rfl (fun _ => rfl) trivial (fun x => .inl ⟨c_i_ParseStairs.start () x, fun _ => rfl⟩) (fun x t hb ht => by
  obtain ⟨t0, _⟩ := x
  exact (i_ParseStairs_e t0).trans ht)
/-! spec.l1Split -/
noncomputable def c_s_l1Split : FnCx := { env := env 34 [] [], body := bodyOf Tryz.f92, res := [.tmp 4], ins := [.ro kstring, .ro kuint8], out := [(kSstring, true)], T := List ByteArray, fin := fun r => r.1.1, inj := fun t => ((t, ()), ((), (), ())), pts := [([.inLoop [1, 1, 1, 0, 1, 0, 0], .inBlock 0, .code [1, 1, 1, 1]], Shape.mk [Bs.row kstring 9 true] [(0, Ss.one (Cs.sc kstring)), (1, Ss.one (Cs.sc kuint8)), (5, Ss.one (Cs.sl 0)), (6, Ss.one (Cs.sc kint)), (7, Ss.one (Cs.sc kint))] [Ss.one (Cs.any), Ss.one (Cs.any)])], fuel := 400, dr := noDr }
noncomputable def s_l1Split_t1 (g1 : List (ByteArray) → ByteArray → Int → Int → Int → Option (List ByteArray)) (r0 : List (ByteArray)) (s0 : ByteArray) (b1 : Int) (from6 : Int) (i7 : Int) : Option (List ByteArray) :=
  bif decide (i7 < (↑(ByteArray.size s0) : Int)) then
    bif decide (0 ≤ i7) then
      bif decide (i7 < (↑(ByteArray.size s0) : Int)) then
        bif bt s0 i7 == b1 then
          bif decide (0 ≤ i7) then
            bif decide (i7 ≤ (↑(ByteArray.size s0) : Int)) then
              bif decide (0 ≤ from6) then
                bif decide (from6 ≤ i7) then
                  bif Nat.ble (List.length r0 + 1) 4294967296 then
                    g1 (r0 ++ [ByteArray.extract s0 (Int.toNat from6) (Int.toNat i7)]) s0 b1 (IntKind.wrap IntKind.i64 (i7 + 1))
                      (IntKind.wrap IntKind.i64 (i7 + 1))
                  else none
                else none
              else none
            else none
          else none
        else g1 r0 s0 b1 from6 (IntKind.wrap IntKind.i64 (i7 + 1))
      else none
    else none
  else
    bif decide (0 ≤ from6) then
      bif decide (from6 ≤ (↑(ByteArray.size s0) : Int)) then
        bif Nat.ble (List.length r0 + 1) 4294967296 then some (r0 ++ [ByteArray.extract s0 (Int.toNat from6) (Int.toNat (↑(ByteArray.size s0) : Int))]) else none
      else none
    else none
noncomputable def s_l1Split_t0 (g1 : List (ByteArray) → ByteArray → Int → Int → Int → Option (List ByteArray)) (s0 : ByteArray) (b1 : Int) : Option (List ByteArray) :=
  g1 [] s0 b1 0 0
theorem s_l1Split_ts : Tails c_s_l1Split.pts c_s_l1Split.round :=
  ⟨fun s => by
    obtain ⟨⟨r0, _⟩, ⟨s0, b1, _, from6, i7, _⟩, ⟨_, _, _⟩⟩ := s
    refine Tail.eq (Y := fun g => s_l1Split_t1 (fun r0 s0 b1 from6 i7 => g.1 ((r0, ()), (s0, b1, (), from6, i7, ()), ((), (), ()))) r0 s0 b1 from6 i7) ?_ (fun g => by kernel_rfl)
    simp only [s_l1Split_t1]; repeat (first | apply Tail.cond | (apply Tail.bind; intro _) | exact Tail.here _ | exact Tail.there (Tail.here _) | exact Tail.there (Tail.there (Tail.here _)) | exact Tail.there (Tail.there (Tail.there (Tail.here _))) | exact Tail.there (Tail.there (Tail.there (Tail.there (Tail.here _)))) | exact Tail.there (Tail.there (Tail.there (Tail.there (Tail.there (Tail.here _))))) | exact Tail.const _), trivial⟩
theorem s_l1Split_hs : ∀ x, Tail c_s_l1Split.pts (fun g => c_s_l1Split.start g x) := fun x => by
    obtain ⟨s0, b1, _⟩ := x
    refine Tail.eq (Y := fun g => s_l1Split_t0 (fun r0 s0 b1 from6 i7 => g.1 ((r0, ()), (s0, b1, (), from6, i7, ()), ((), (), ()))) s0 b1) ?_ (fun g => by kernel_rfl)
    simp only [s_l1Split_t0]; repeat (first | apply Tail.cond | (apply Tail.bind; intro _) | exact Tail.here _ | exact Tail.there (Tail.here _) | exact Tail.there (Tail.there (Tail.here _)) | exact Tail.there (Tail.there (Tail.there (Tail.here _))) | exact Tail.there (Tail.there (Tail.there (Tail.there (Tail.here _)))) | exact Tail.there (Tail.there (Tail.there (Tail.there (Tail.there (Tail.here _))))) | exact Tail.const _)
noncomputable def s_l1Split_L1 (r0 : List (ByteArray)) (s0 : ByteArray) (b1 : Int) (from6 : Int) (i7 : Int) : Option (List ByteArray) := c_s_l1Split.L.1 ((r0, ()), (s0, b1, (), from6, i7, ()), ((), (), ()))
theorem s_l1Split_u1 (r0 : List (ByteArray)) (s0 : ByteArray) (b1 : Int) (from6 : Int) (i7 : Int) : s_l1Split_L1 r0 s0 b1 from6 i7 = s_l1Split_t1 s_l1Split_L1 r0 s0 b1 from6 i7 :=
  (congrArg (fun g => g.1 ((r0, ()), (s0, b1, (), from6, i7, ()), ((), (), ()))) (FnCx.L_eq s_l1Split_ts)).trans (by kernel_rfl)
noncomputable def s_l1Split (s0 : ByteArray) (b1 : Int) : Option (List ByteArray) := s_l1Split_t0 s_l1Split_L1 s0 b1
theorem s_l1Split_e (s0 : ByteArray) (b1 : Int) : c_s_l1Split.start c_s_l1Split.L (s0, b1, ()) = s_l1Split s0 b1 := by kernel_rfl
noncomputable def F_s_l1Split : Ins c_s_l1Split.ins → Option (List ByteArray) := fun x => s_l1Split x.1 x.2.1
noncomputable def S_s_l1Split : FSpec := mkF c_s_l1Split.env.pre c_s_l1Split.ins c_s_l1Split.out c_s_l1Split.inj F_s_l1Split
theorem h_s_l1Split : Cert Tryz.prog 92 S_s_l1Split := FnCx.certF (c := c_s_l1Split) F_s_l1Split (tyOk _ _ _) (spOk trivial) (fun _ _ _ _ _ hs => noDr_ok) Tryz.func92 rfl rfl Tryz.ntmps92 (by kernel_rfl) rfl rfl (fun _ => rfl) s_l1Split_ts s_l1Split_hs (fun x t hb ht => by
  obtain ⟨s0, b1, _⟩ := x
  exact (s_l1Split_e s0 b1).trans ht)
/-! spec.l1Read -/
noncomputable def c_s_l1Read : FnCx := { env := env 44 [(64, S_s_l1In)] [], body := bodyOf Tryz.f93, res := [.tmp 2], ins := [.ro kstring], out := [(kint, true)], T := Int, fin := fun r => r.1.1, inj := fun t => ((t, ()), ((), ())), pts := [([.inLoop [1, 1, 1, 0, 1, 0, 0], .inBlock 0, .code [1, 1, 1, 1]], Shape.mk [] [(0, Ss.one (Cs.sc kstring)), (3, Ss.one (Cs.sc kint)), (4, Ss.one (Cs.sc kint))] [Ss.one (Cs.any)])], fuel := 400, dr := noDr }
noncomputable def s_l1Read_t1 (g1 : ByteArray → Int → Int → Option (Int)) (s0 : ByteArray) (n3 : Int) (i4 : Int) : Option Int :=
  bif decide (i4 < (↑(ByteArray.size s0) : Int)) then
    bif decide (0 ≤ i4) then
      bif decide (i4 < (↑(ByteArray.size s0) : Int)) then
        bif decide (bt s0 i4 < 48) then some (-1)
        else
          bif decide (0 ≤ i4) then
            bif decide (i4 < (↑(ByteArray.size s0) : Int)) then
              bif decide (bt s0 i4 > 57) then some (-1)
              else
                bif decide (0 ≤ i4) then
                  bif decide (i4 < (↑(ByteArray.size s0) : Int)) then
                    g1 s0 (IntKind.wrap IntKind.i64 (IntKind.wrap IntKind.i64 (10 * n3) + IntKind.wrap IntKind.i64 (IntKind.wrap IntKind.u8 (bt s0 i4 - 48))))
                      (IntKind.wrap IntKind.i64 (i4 + 1))
                  else none
                else none
            else none
          else none
      else none
    else none
  else some n3
noncomputable def s_l1Read_t0 (g1 : ByteArray → Int → Int → Option (Int)) (s0 : ByteArray) : Option Int :=
  bif !s_l1In (↑(ByteArray.size s0) : Int) 1 6 then some (-1)
  else
    bif decide (0 < (↑(ByteArray.size s0) : Int)) then
      bif bt s0 0 == 48 then bif decide ((↑(ByteArray.size s0) : Int) > 1) then some (-1) else g1 s0 0 0 else g1 s0 0 0
    else none
theorem s_l1Read_ts : Tails c_s_l1Read.pts c_s_l1Read.round :=
  ⟨fun s => by
    obtain ⟨_, ⟨s0, n3, i4, _⟩, ⟨_, _⟩⟩ := s
    refine Tail.eq (Y := fun g => s_l1Read_t1 (fun s0 n3 i4 => g.1 ((), (s0, n3, i4, ()), ((), ()))) s0 n3 i4) ?_ (fun g => by kernel_rfl)
    simp only [s_l1Read_t1]; repeat (first | apply Tail.cond | (apply Tail.bind; intro _) | exact Tail.here _ | exact Tail.there (Tail.here _) | exact Tail.there (Tail.there (Tail.here _)) | exact Tail.there (Tail.there (Tail.there (Tail.here _))) | exact Tail.there (Tail.there (Tail.there (Tail.there (Tail.here _)))) | exact Tail.there (Tail.there (Tail.there (Tail.there (Tail.there (Tail.here _))))) | exact Tail.const _), trivial⟩
theorem s_l1Read_hs : ∀ x, Tail c_s_l1Read.pts (fun g => c_s_l1Read.start g x) := fun x => by
    obtain ⟨s0, _⟩ := x
    refine Tail.eq (Y := fun g => s_l1Read_t0 (fun s0 n3 i4 => g.1 ((), (s0, n3, i4, ()), ((), ()))) s0) ?_ (fun g => by kernel_rfl)
    simp only [s_l1Read_t0]; repeat (first | apply Tail.cond | (apply Tail.bind; intro _) | exact Tail.here _ | exact Tail.there (Tail.here _) | exact Tail.there (Tail.there (Tail.here _)) | exact Tail.there (Tail.there (Tail.there (Tail.here _))) | exact Tail.there (Tail.there (Tail.there (Tail.there (Tail.here _)))) | exact Tail.there (Tail.there (Tail.there (Tail.there (Tail.there (Tail.here _))))) | exact Tail.const _)
noncomputable def s_l1Read_L1 (s0 : ByteArray) (n3 : Int) (i4 : Int) : Option Int := c_s_l1Read.L.1 ((), (s0, n3, i4, ()), ((), ()))
theorem s_l1Read_u1 (s0 : ByteArray) (n3 : Int) (i4 : Int) : s_l1Read_L1 s0 n3 i4 = s_l1Read_t1 s_l1Read_L1 s0 n3 i4 :=
  (congrArg (fun g => g.1 ((), (s0, n3, i4, ()), ((), ()))) (FnCx.L_eq s_l1Read_ts)).trans (by kernel_rfl)
noncomputable def s_l1Read (s0 : ByteArray) : Option Int := s_l1Read_t0 s_l1Read_L1 s0
theorem s_l1Read_e (s0 : ByteArray) : c_s_l1Read.start c_s_l1Read.L (s0, ()) = s_l1Read s0 := by kernel_rfl
noncomputable def F_s_l1Read : Ins c_s_l1Read.ins → Option Int := fun x => s_l1Read x.1
noncomputable def S_s_l1Read : FSpec := mkF c_s_l1Read.env.pre c_s_l1Read.ins c_s_l1Read.out c_s_l1Read.inj F_s_l1Read
theorem h_s_l1Read : Cert Tryz.prog 93 S_s_l1Read := FnCx.certF (c := c_s_l1Read) F_s_l1Read (tyOk _ _ _) (spOk ⟨h_s_l1In, fun _ _ h => h, trivial⟩) (fun _ _ _ _ _ hs => noDr_ok) Tryz.func93 rfl rfl Tryz.ntmps93 (by kernel_rfl) rfl rfl (fun _ => rfl) s_l1Read_ts s_l1Read_hs (fun x t hb ht => by
  obtain ⟨s0, _⟩ := x
  exact (s_l1Read_e s0).trans ht)
/-! spec.clNumbers -/
noncomputable def c_s_clNumbers : FnCx := { env := env 20 [(92, S_s_l1Split), (93, S_s_l1Read)] [], body := bodyOf Tryz.f94, res := [.tmp 2], ins := [.ro kstring], out := [(kSint, true)], T := List Int, fin := fun r => r.1.1, inj := fun t => ((t, ()), ((), ())), pts := [([.inLoop [1, 1, 0, 1, 0, 0], .inBlock 0, .code [1, 1, 1]], Shape.mk [Bs.row kint 3 true, Bs.row kstring 9 true] [(3, Ss.one (Cs.sl 0)), (7, Ss.one (Cs.sl 1)), (8, Ss.one (Cs.sc kint)), (9, Ss.one (Cs.sc kint))] [Ss.one (Cs.any)])], fuel := 400, dr := noDr }
noncomputable def s_clNumbers_t1 (g1 : List (Int) → List (ByteArray) → Int → Int → Option (List Int)) (r0 : List (Int)) (r1 : List (ByteArray)) (s8 : Int) (s9 : Int) : Option (List Int) :=
  bif decide (s9 < s8) then
    bif decide (0 ≤ s9) then
      bif decide (s9 < (↑(List.length r1) : Int)) then
        Option.bind (s_l1Read (rdk kstring r1 s9)) fun r =>
          bif Nat.ble (List.length r0 + 1) 4294967296 then g1 (r0 ++ [r]) r1 s8 (IntKind.wrap IntKind.i64 (s9 + 1)) else none
      else none
    else none
  else some r0
noncomputable def s_clNumbers_t0 (g1 : List (Int) → List (ByteArray) → Int → Int → Option (List Int)) (t0 : ByteArray) : Option (List Int) :=
  Option.bind (s_l1Split t0 44) fun r => g1 [] r (↑(List.length r) : Int) 0
theorem s_clNumbers_ts : Tails c_s_clNumbers.pts c_s_clNumbers.round :=
  ⟨fun s => by
    obtain ⟨⟨r0, r1, _⟩, ⟨_, _, s8, s9, _⟩, ⟨_, _⟩⟩ := s
    refine Tail.eq (Y := fun g => s_clNumbers_t1 (fun r0 r1 s8 s9 => g.1 ((r0, r1, ()), ((), (), s8, s9, ()), ((), ()))) r0 r1 s8 s9) ?_ (fun g => by kernel_rfl)
    simp only [s_clNumbers_t1]; repeat (first | exact Tail.const _ | exact Tail.here _ | exact Tail.there (Tail.here _) | exact Tail.there (Tail.there (Tail.here _)) | exact Tail.there (Tail.there (Tail.there (Tail.here _))) | exact Tail.there (Tail.there (Tail.there (Tail.there (Tail.here _)))) | exact Tail.there (Tail.there (Tail.there (Tail.there (Tail.there (Tail.here _))))) | apply Tail.cond | (apply Tail.bind; intro _)), trivial⟩
theorem s_clNumbers_hs : ∀ x, Tail c_s_clNumbers.pts (fun g => c_s_clNumbers.start g x) := fun x => by
    obtain ⟨t0, _⟩ := x
    refine Tail.eq (Y := fun g => s_clNumbers_t0 (fun r0 r1 s8 s9 => g.1 ((r0, r1, ()), ((), (), s8, s9, ()), ((), ()))) t0) ?_ (fun g => by kernel_rfl)
    simp only [s_clNumbers_t0]; repeat (first | exact Tail.const _ | exact Tail.here _ | exact Tail.there (Tail.here _) | exact Tail.there (Tail.there (Tail.here _)) | exact Tail.there (Tail.there (Tail.there (Tail.here _))) | exact Tail.there (Tail.there (Tail.there (Tail.there (Tail.here _)))) | exact Tail.there (Tail.there (Tail.there (Tail.there (Tail.there (Tail.here _))))) | apply Tail.cond | (apply Tail.bind; intro _))
noncomputable def s_clNumbers_L1 (r0 : List (Int)) (r1 : List (ByteArray)) (s8 : Int) (s9 : Int) : Option (List Int) := c_s_clNumbers.L.1 ((r0, r1, ()), ((), (), s8, s9, ()), ((), ()))
theorem s_clNumbers_u1 (r0 : List (Int)) (r1 : List (ByteArray)) (s8 : Int) (s9 : Int) : s_clNumbers_L1 r0 r1 s8 s9 = s_clNumbers_t1 s_clNumbers_L1 r0 r1 s8 s9 :=
  (congrArg (fun g => g.1 ((r0, r1, ()), ((), (), s8, s9, ()), ((), ()))) (FnCx.L_eq s_clNumbers_ts)).trans (by kernel_rfl)
noncomputable def s_clNumbers (t0 : ByteArray) : Option (List Int) := s_clNumbers_t0 s_clNumbers_L1 t0
theorem s_clNumbers_e (t0 : ByteArray) : c_s_clNumbers.start c_s_clNumbers.L (t0, ()) = s_clNumbers t0 := by kernel_rfl
noncomputable def F_s_clNumbers : Ins c_s_clNumbers.ins → Option (List Int) := fun x => s_clNumbers x.1
noncomputable def S_s_clNumbers : FSpec := mkF c_s_clNumbers.env.pre c_s_clNumbers.ins c_s_clNumbers.out c_s_clNumbers.inj F_s_clNumbers
theorem h_s_clNumbers : Cert Tryz.prog 94 S_s_clNumbers := FnCx.certF (c := c_s_clNumbers) F_s_clNumbers (tyOk _ _ _) (spOk ⟨h_s_l1Split, fun _ _ h => h, ⟨h_s_l1Read, fun _ _ h => h, trivial⟩⟩) (fun _ _ _ _ _ hs => noDr_ok) Tryz.func94 rfl rfl Tryz.ntmps94 (by kernel_rfl) rfl rfl (fun _ => rfl) s_clNumbers_ts s_clNumbers_hs (fun x t hb ht => by
  obtain ⟨t0, _⟩ := x
  exact (s_clNumbers_e t0).trans ht)
/-! spec.clParse -/
noncomputable def c_s_clParse : FnCx := { env := env 48 [(92, S_s_l1Split), (93, S_s_l1Read), (94, S_s_clNumbers), (41, S_s_clGood)] [], body := bodyOf Tryz.f68, res := [.cell 2 24, .tmp 3], ins := [.ro kstring], out := [(kStairs, true), (kbool, true)], T := (Int × List Int × List Int) × Bool, fin := fun r => (r.1.1, r.1.2.1), inj := fun t => ((t.1, t.2, ()), ((), ())), pts := [], fuel := 400, dr := evDr (env 48 [(92, S_s_l1Split), (93, S_s_l1Read), (94, S_s_clNumbers), (41, S_s_clGood)] []) }
noncomputable def s_clParse (t0 : ByteArray) : Option ((Int × List Int × List Int) × Bool) :=
  Option.bind (s_l1Split t0 115) fun r =>
    bif decide ((↑(ByteArray.size t0) : Int) > 200) then some ((0, [], []), false)
    else
      bif (↑(List.length r) : Int) != 2 then some ((0, [], []), false)
      else
        bif decide (1 < (↑(List.length r) : Int)) then
          Option.bind (s_l1Split (rdk kstring r 1) 120) fun r_1 =>
            bif decide ((↑(List.length r_1) : Int) > 2) then some ((0, [], []), false)
            else
              bif decide (0 < (↑(List.length r) : Int)) then
                Option.bind (s_l1Read (rdk kstring r 0)) fun r =>
                  bif decide (0 < (↑(List.length r_1) : Int)) then
                    Option.bind (s_clNumbers (rdk kstring r_1 0)) fun r_2 =>
                      bif (↑(List.length r_1) : Int) == 2 then
                        bif decide (1 < (↑(List.length r_1) : Int)) then
                          Option.bind (s_clNumbers (rdk kstring r_1 1)) fun r_3 =>
                            bif !s_clGood r r_2 r_3 then some ((0, [], []), false) else some ((r, r_2, r_3), true)
                        else none
                      else bif !s_clGood r r_2 [] then some ((0, [], []), false) else some ((r, r_2, []), true)
                  else none
              else none
        else none
theorem s_clParse_e (t0 : ByteArray) : c_s_clParse.start c_s_clParse.L (t0, ()) = s_clParse t0 := by kernel_rfl
noncomputable def F_s_clParse : Ins c_s_clParse.ins → Option ((Int × List Int × List Int) × Bool) := fun x => s_clParse x.1
noncomputable def S_s_clParse : FSpec := mkF c_s_clParse.env.pre c_s_clParse.ins c_s_clParse.out c_s_clParse.inj F_s_clParse
theorem h_s_clParse : Cert Tryz.prog 68 S_s_clParse := FnCx.certF (c := c_s_clParse) F_s_clParse (tyOk _ _ _) (spOk ⟨h_s_l1Split, fun _ _ h => h, ⟨h_s_l1Read, fun _ _ h => h, ⟨h_s_clNumbers, fun _ _ h => h, ⟨h_s_clGood, fun _ _ h => h, trivial⟩⟩⟩⟩) (fun _ _ _ _ _ hs => evDr_ok (tyOk _ _ _) hs follows) Tryz.func68 rfl rfl Tryz.ntmps68 (by kernel_rfl) rfl rfl (fun _ => rfl) trivial (fun x => .inl ⟨c_s_clParse.start () x, fun _ => rfl⟩) (fun x t hb ht => by
  obtain ⟨t0, _⟩ := x
  exact (s_clParse_e t0).trans ht)
/-! spec.ParseStairs -/
noncomputable def c_s_ParseStairs : FnCx := { env := env 8 [(68, S_s_clParse)] [], body := bodyOf Tryz.f31, res := [.cell 2 24, .tmp 3], ins := [.ro kstring], out := [(kStairs, true), (kbool, true)], T := (Int × List Int × List Int) × Bool, fin := fun r => (r.1.1, r.1.2.1), inj := fun t => ((t.1, t.2, ()), ((), ())), pts := [], fuel := 400, dr := noDr }
noncomputable def s_ParseStairs (t0 : ByteArray) : Option ((Int × List Int × List Int) × Bool) :=
  Option.bind (s_clParse t0) fun r => some ((Prod.fst (Prod.fst r), Prod.fst (Prod.snd (Prod.fst r)), Prod.snd (Prod.snd (Prod.fst r))), Prod.snd r)
theorem s_ParseStairs_e (t0 : ByteArray) : c_s_ParseStairs.start c_s_ParseStairs.L (t0, ()) = s_ParseStairs t0 := by kernel_rfl
noncomputable def F_s_ParseStairs : Ins c_s_ParseStairs.ins → Option ((Int × List Int × List Int) × Bool) := fun x => s_ParseStairs x.1
noncomputable def S_s_ParseStairs : FSpec := mkF c_s_ParseStairs.env.pre c_s_ParseStairs.ins c_s_ParseStairs.out c_s_ParseStairs.inj F_s_ParseStairs
theorem h_s_ParseStairs : Cert Tryz.prog 31 S_s_ParseStairs := FnCx.certF (c := c_s_ParseStairs) F_s_ParseStairs (tyOk _ _ _) (spOk ⟨h_s_clParse, fun _ _ h => h, trivial⟩) (fun _ _ _ _ _ hs => noDr_ok) Tryz.func31 rfl rfl Tryz.ntmps31 (by kernel_rfl) rfl rfl (fun _ => rfl) trivial (fun x => .inl ⟨c_s_ParseStairs.start () x, fun _ => rfl⟩) (fun x t hb ht => by
  obtain ⟨t0, _⟩ := x
  exact (s_ParseStairs_e t0).trans ht)
/-! laws.lSame -/
noncomputable def c_w_lSame : FnCx := { env := env 26 [] [], body := bodyOf Tryz.f17, res := [.tmp 4], ins := [.ro kSint, .ro kSint], out := [(kbool, true)], T := Bool, fin := fun r => r.1.1, inj := fun t => ((t, ()), ((), (), ())), pts := [([.inLoop [1, 1, 0, 1, 0, 0], .inBlock 0, .code [1, 1, 1]], Shape.mk [Bs.row kint 3 false, Bs.row kint 3 false] [(0, Ss.one (Cs.sl 0)), (1, Ss.one (Cs.sl 1)), (12, Ss.one (Cs.sc kint)), (13, Ss.one (Cs.sc kint))] [Ss.one (Cs.any), Ss.one (Cs.any)])], fuel := 400, dr := evDr (env 26 [] []) }
noncomputable def w_lSame_t1 (g1 : List (Int) → List (Int) → Int → Int → Option (Bool)) (r0 : List (Int)) (r1 : List (Int)) (s12 : Int) (s13 : Int) : Option Bool :=
  bif decide (s13 < s12) then
    bif decide (0 ≤ s13) then
      bif decide (s13 < (↑(List.length r0) : Int)) then
        bif decide (0 ≤ s13) then
          bif decide (s13 < (↑(List.length r1) : Int)) then
            bif rdk kint r0 s13 != rdk kint r1 s13 then some false else g1 r0 r1 s12 (IntKind.wrap IntKind.i64 (s13 + 1))
          else none
        else none
      else none
    else none
  else some true
noncomputable def w_lSame_t0 (g1 : List (Int) → List (Int) → Int → Int → Option (Bool)) (a0 : List Int) (b1 : List Int) : Option Bool :=
  bif (↑(List.length a0) : Int) != (↑(List.length b1) : Int) then some false else g1 a0 b1 (↑(List.length a0) : Int) 0
theorem w_lSame_ts : Tails c_w_lSame.pts c_w_lSame.round :=
  ⟨fun s => by
    obtain ⟨⟨r0, r1, _⟩, ⟨_, _, s12, s13, _⟩, ⟨_, _, _⟩⟩ := s
    refine Tail.eq (Y := fun g => w_lSame_t1 (fun r0 r1 s12 s13 => g.1 ((r0, r1, ()), ((), (), s12, s13, ()), ((), (), ()))) r0 r1 s12 s13) ?_ (fun g => by kernel_rfl)
    simp only [w_lSame_t1]; repeat (first | exact Tail.const _ | exact Tail.here _ | exact Tail.there (Tail.here _) | exact Tail.there (Tail.there (Tail.here _)) | exact Tail.there (Tail.there (Tail.there (Tail.here _))) | exact Tail.there (Tail.there (Tail.there (Tail.there (Tail.here _)))) | exact Tail.there (Tail.there (Tail.there (Tail.there (Tail.there (Tail.here _))))) | apply Tail.cond | (apply Tail.bind; intro _)), trivial⟩
theorem w_lSame_hs : ∀ x, Tail c_w_lSame.pts (fun g => c_w_lSame.start g x) := fun x => by
    obtain ⟨a0, b1, _⟩ := x
    refine Tail.eq (Y := fun g => w_lSame_t0 (fun r0 r1 s12 s13 => g.1 ((r0, r1, ()), ((), (), s12, s13, ()), ((), (), ()))) a0 b1) ?_ (fun g => by kernel_rfl)
    simp only [w_lSame_t0]; repeat (first | exact Tail.const _ | exact Tail.here _ | exact Tail.there (Tail.here _) | exact Tail.there (Tail.there (Tail.here _)) | exact Tail.there (Tail.there (Tail.there (Tail.here _))) | exact Tail.there (Tail.there (Tail.there (Tail.there (Tail.here _)))) | exact Tail.there (Tail.there (Tail.there (Tail.there (Tail.there (Tail.here _))))) | apply Tail.cond | (apply Tail.bind; intro _))
noncomputable def w_lSame_L1 (r0 : List (Int)) (r1 : List (Int)) (s12 : Int) (s13 : Int) : Option Bool := c_w_lSame.L.1 ((r0, r1, ()), ((), (), s12, s13, ()), ((), (), ()))
theorem w_lSame_u1 (r0 : List (Int)) (r1 : List (Int)) (s12 : Int) (s13 : Int) : w_lSame_L1 r0 r1 s12 s13 = w_lSame_t1 w_lSame_L1 r0 r1 s12 s13 :=
  (congrArg (fun g => g.1 ((r0, r1, ()), ((), (), s12, s13, ()), ((), (), ()))) (FnCx.L_eq w_lSame_ts)).trans (by kernel_rfl)
noncomputable def w_lSame (a0 : List Int) (b1 : List Int) : Option Bool := w_lSame_t0 w_lSame_L1 a0 b1
theorem w_lSame_e (a0 : List Int) (b1 : List Int) : c_w_lSame.start c_w_lSame.L (a0, b1, ()) = w_lSame a0 b1 := by kernel_rfl
noncomputable def F_w_lSame : Ins c_w_lSame.ins → Option Bool := fun x => w_lSame x.1 x.2.1
noncomputable def S_w_lSame : FSpec := mkF c_w_lSame.env.pre c_w_lSame.ins c_w_lSame.out c_w_lSame.inj F_w_lSame
theorem h_w_lSame : Cert Tryz.prog 17 S_w_lSame := FnCx.certF (c := c_w_lSame) F_w_lSame (tyOk _ _ _) (spOk trivial) (fun _ _ _ _ _ hs => evDr_ok (tyOk _ _ _) hs follows) Tryz.func17 rfl rfl Tryz.ntmps17 (by kernel_rfl) rfl rfl (fun _ => rfl) w_lSame_ts w_lSame_hs (fun x t hb ht => by
  obtain ⟨a0, b1, _⟩ := x
  exact (w_lSame_e a0 b1).trans ht)
/-! laws.lStairs -/
noncomputable def c_w_lStairs : FnCx := { env := env 24 [(17, S_w_lSame)] [], body := bodyOf Tryz.f18, res := [.tmp 4], ins := [.ro kStairs, .ro kStairs], out := [(kbool, true)], T := Bool, fin := fun r => r.1.1, inj := fun t => ((t, ()), ((), (), ())), pts := [], fuel := 400, dr := noDr }
noncomputable def w_lStairs (a0_Steps : Int) (a0_Strides : List Int) (a0_Broken : List Int) (b1_Steps : Int) (b1_Strides : List Int) (b1_Broken : List Int) : Option Bool :=
  bif a0_Steps == b1_Steps then
    Option.bind (w_lSame a0_Strides b1_Strides) fun r => bif r then Option.bind (w_lSame a0_Broken b1_Broken) fun r => some r else some false
  else some false
theorem w_lStairs_e (a0_Steps : Int) (a0_Strides : List Int) (a0_Broken : List Int) (b1_Steps : Int) (b1_Strides : List Int) (b1_Broken : List Int) : c_w_lStairs.start c_w_lStairs.L ((a0_Steps, a0_Strides, a0_Broken), (b1_Steps, b1_Strides, b1_Broken), ()) = w_lStairs a0_Steps a0_Strides a0_Broken b1_Steps b1_Strides b1_Broken := by kernel_rfl
noncomputable def F_w_lStairs : Ins c_w_lStairs.ins → Option Bool := fun x => w_lStairs x.1.1 x.1.2.1 x.1.2.2 x.2.1.1 x.2.1.2.1 x.2.1.2.2
noncomputable def S_w_lStairs : FSpec := mkF c_w_lStairs.env.pre c_w_lStairs.ins c_w_lStairs.out c_w_lStairs.inj F_w_lStairs
theorem h_w_lStairs : Cert Tryz.prog 18 S_w_lStairs := FnCx.certF (c := c_w_lStairs) F_w_lStairs (tyOk _ _ _) (spOk ⟨h_w_lSame, fun _ _ h => h, trivial⟩) (fun _ _ _ _ _ hs => noDr_ok) Tryz.func18 rfl rfl Tryz.ntmps18 (by kernel_rfl) rfl rfl (fun _ => rfl) trivial (fun x => .inl ⟨c_w_lStairs.start () x, fun _ => rfl⟩) (fun x t hb ht => by
  obtain ⟨⟨a0_Steps, a0_Strides, a0_Broken⟩, ⟨b1_Steps, b1_Strides, b1_Broken⟩, _⟩ := x
  exact (w_lStairs_e a0_Steps a0_Strides a0_Broken b1_Steps b1_Strides b1_Broken).trans ht)
/-! laws.lRises -/
noncomputable def c_w_lRises : FnCx := { env := env 20 [] [], body := bodyOf Tryz.f22, res := [.tmp 2], ins := [.ro kSint], out := [(kbool, true)], T := Bool, fin := fun r => r.1.1, inj := fun t => ((t, ()), ((), ())), pts := [([.inLoop [1, 0, 1, 0, 0], .inBlock 0, .code [1, 1]], Shape.mk [Bs.row kint 3 false] [(0, Ss.one (Cs.sl 0)), (3, Ss.one (Cs.sc kint))] [Ss.one (Cs.any)])], fuel := 400, dr := evDr (env 20 [] []) }
noncomputable def w_lRises_t1 (g1 : List (Int) → Int → Option (Bool)) (r0 : List (Int)) (i3 : Int) : Option Bool :=
  bif decide (i3 < (↑(List.length r0) : Int)) then
    bif decide (0 ≤ IntKind.wrap IntKind.i64 (i3 - 1)) then
      bif decide (IntKind.wrap IntKind.i64 (i3 - 1) < (↑(List.length r0) : Int)) then
        bif decide (0 ≤ i3) then
          bif decide (i3 < (↑(List.length r0) : Int)) then
            bif decide (rdk kint r0 (IntKind.wrap IntKind.i64 (i3 - 1)) ≥ rdk kint r0 i3) then some false
            else g1 r0 (IntKind.wrap IntKind.i64 (i3 + 1))
          else none
        else none
      else none
    else none
  else some true
noncomputable def w_lRises_t0 (g1 : List (Int) → Int → Option (Bool)) (list0 : List Int) : Option Bool :=
  g1 list0 1
theorem w_lRises_ts : Tails c_w_lRises.pts c_w_lRises.round :=
  ⟨fun s => by
    obtain ⟨⟨r0, _⟩, ⟨_, i3, _⟩, ⟨_, _⟩⟩ := s
    refine Tail.eq (Y := fun g => w_lRises_t1 (fun r0 i3 => g.1 ((r0, ()), ((), i3, ()), ((), ()))) r0 i3) ?_ (fun g => by kernel_rfl)
    simp only [w_lRises_t1]; repeat (first | exact Tail.const _ | exact Tail.here _ | exact Tail.there (Tail.here _) | exact Tail.there (Tail.there (Tail.here _)) | exact Tail.there (Tail.there (Tail.there (Tail.here _))) | exact Tail.there (Tail.there (Tail.there (Tail.there (Tail.here _)))) | exact Tail.there (Tail.there (Tail.there (Tail.there (Tail.there (Tail.here _))))) | apply Tail.cond | (apply Tail.bind; intro _)), trivial⟩
theorem w_lRises_hs : ∀ x, Tail c_w_lRises.pts (fun g => c_w_lRises.start g x) := fun x => by
    obtain ⟨list0, _⟩ := x
    refine Tail.eq (Y := fun g => w_lRises_t0 (fun r0 i3 => g.1 ((r0, ()), ((), i3, ()), ((), ()))) list0) ?_ (fun g => by kernel_rfl)
    simp only [w_lRises_t0]; repeat (first | exact Tail.const _ | exact Tail.here _ | exact Tail.there (Tail.here _) | exact Tail.there (Tail.there (Tail.here _)) | exact Tail.there (Tail.there (Tail.there (Tail.here _))) | exact Tail.there (Tail.there (Tail.there (Tail.there (Tail.here _)))) | exact Tail.there (Tail.there (Tail.there (Tail.there (Tail.there (Tail.here _))))) | apply Tail.cond | (apply Tail.bind; intro _))
noncomputable def w_lRises_L1 (r0 : List (Int)) (i3 : Int) : Option Bool := c_w_lRises.L.1 ((r0, ()), ((), i3, ()), ((), ()))
theorem w_lRises_u1 (r0 : List (Int)) (i3 : Int) : w_lRises_L1 r0 i3 = w_lRises_t1 w_lRises_L1 r0 i3 :=
  (congrArg (fun g => g.1 ((r0, ()), ((), i3, ()), ((), ()))) (FnCx.L_eq w_lRises_ts)).trans (by kernel_rfl)
noncomputable def w_lRises (list0 : List Int) : Option Bool := w_lRises_t0 w_lRises_L1 list0
theorem w_lRises_e (list0 : List Int) : c_w_lRises.start c_w_lRises.L (list0, ()) = w_lRises list0 := by kernel_rfl
noncomputable def F_w_lRises : Ins c_w_lRises.ins → Option Bool := fun x => w_lRises x.1
noncomputable def S_w_lRises : FSpec := mkF c_w_lRises.env.pre c_w_lRises.ins c_w_lRises.out c_w_lRises.inj F_w_lRises
theorem h_w_lRises : Cert Tryz.prog 22 S_w_lRises := FnCx.certF (c := c_w_lRises) F_w_lRises (tyOk _ _ _) (spOk trivial) (fun _ _ _ _ _ hs => evDr_ok (tyOk _ _ _) hs follows) Tryz.func22 rfl rfl Tryz.ntmps22 (by kernel_rfl) rfl rfl (fun _ => rfl) w_lRises_ts w_lRises_hs (fun x t hb ht => by
  obtain ⟨list0, _⟩ := x
  exact (w_lRises_e list0).trans ht)
/-! laws.lHas -/
noncomputable def c_w_lHas : FnCx := { env := env 17 [] [], body := bodyOf Tryz.f23, res := [.tmp 4], ins := [.ro kSint, .ro kint], out := [(kbool, true)], T := Bool, fin := fun r => r.1.1, inj := fun t => ((t, ()), ((), (), ())), pts := [([.inLoop [1, 0, 1, 0, 0], .inBlock 0, .code [1, 1]], Shape.mk [Bs.row kint 3 false] [(1, Ss.one (Cs.sc kint)), (7, Ss.one (Cs.sl 0)), (8, Ss.one (Cs.sc kint)), (9, Ss.one (Cs.sc kint))] [Ss.one (Cs.any), Ss.one (Cs.any)])], fuel := 400, dr := noDr }
noncomputable def w_lHas_t1 (g1 : List (Int) → Int → Int → Int → Option (Bool)) (r0 : List (Int)) (n1 : Int) (s8 : Int) (s9 : Int) : Option Bool :=
  bif decide (s9 < s8) then
    bif decide (0 ≤ s9) then
      bif decide (s9 < (↑(List.length r0) : Int)) then
        bif rdk kint r0 s9 == n1 then some true else g1 r0 n1 s8 (IntKind.wrap IntKind.i64 (s9 + 1))
      else none
    else none
  else some false
noncomputable def w_lHas_t0 (g1 : List (Int) → Int → Int → Int → Option (Bool)) (list0 : List Int) (n1 : Int) : Option Bool :=
  g1 list0 n1 (↑(List.length list0) : Int) 0
theorem w_lHas_ts : Tails c_w_lHas.pts c_w_lHas.round :=
  ⟨fun s => by
    obtain ⟨⟨r0, _⟩, ⟨n1, _, s8, s9, _⟩, ⟨_, _, _⟩⟩ := s
    refine Tail.eq (Y := fun g => w_lHas_t1 (fun r0 n1 s8 s9 => g.1 ((r0, ()), (n1, (), s8, s9, ()), ((), (), ()))) r0 n1 s8 s9) ?_ (fun g => by kernel_rfl)
    simp only [w_lHas_t1]; repeat (first | exact Tail.const _ | exact Tail.here _ | exact Tail.there (Tail.here _) | exact Tail.there (Tail.there (Tail.here _)) | exact Tail.there (Tail.there (Tail.there (Tail.here _))) | exact Tail.there (Tail.there (Tail.there (Tail.there (Tail.here _)))) | exact Tail.there (Tail.there (Tail.there (Tail.there (Tail.there (Tail.here _))))) | apply Tail.cond | (apply Tail.bind; intro _)), trivial⟩
theorem w_lHas_hs : ∀ x, Tail c_w_lHas.pts (fun g => c_w_lHas.start g x) := fun x => by
    obtain ⟨list0, n1, _⟩ := x
    refine Tail.eq (Y := fun g => w_lHas_t0 (fun r0 n1 s8 s9 => g.1 ((r0, ()), (n1, (), s8, s9, ()), ((), (), ()))) list0 n1) ?_ (fun g => by kernel_rfl)
    simp only [w_lHas_t0]; repeat (first | exact Tail.const _ | exact Tail.here _ | exact Tail.there (Tail.here _) | exact Tail.there (Tail.there (Tail.here _)) | exact Tail.there (Tail.there (Tail.there (Tail.here _))) | exact Tail.there (Tail.there (Tail.there (Tail.there (Tail.here _)))) | exact Tail.there (Tail.there (Tail.there (Tail.there (Tail.there (Tail.here _))))) | apply Tail.cond | (apply Tail.bind; intro _))
noncomputable def w_lHas_L1 (r0 : List (Int)) (n1 : Int) (s8 : Int) (s9 : Int) : Option Bool := c_w_lHas.L.1 ((r0, ()), (n1, (), s8, s9, ()), ((), (), ()))
theorem w_lHas_u1 (r0 : List (Int)) (n1 : Int) (s8 : Int) (s9 : Int) : w_lHas_L1 r0 n1 s8 s9 = w_lHas_t1 w_lHas_L1 r0 n1 s8 s9 :=
  (congrArg (fun g => g.1 ((r0, ()), (n1, (), s8, s9, ()), ((), (), ()))) (FnCx.L_eq w_lHas_ts)).trans (by kernel_rfl)
noncomputable def w_lHas (list0 : List Int) (n1 : Int) : Option Bool := w_lHas_t0 w_lHas_L1 list0 n1
theorem w_lHas_e (list0 : List Int) (n1 : Int) : c_w_lHas.start c_w_lHas.L (list0, n1, ()) = w_lHas list0 n1 := by kernel_rfl
noncomputable def F_w_lHas : Ins c_w_lHas.ins → Option Bool := fun x => w_lHas x.1 x.2.1
noncomputable def S_w_lHas : FSpec := mkF c_w_lHas.env.pre c_w_lHas.ins c_w_lHas.out c_w_lHas.inj F_w_lHas
theorem h_w_lHas : Cert Tryz.prog 23 S_w_lHas := FnCx.certF (c := c_w_lHas) F_w_lHas (tyOk _ _ _) (spOk trivial) (fun _ _ _ _ _ hs => noDr_ok) Tryz.func23 rfl rfl Tryz.ntmps23 (by kernel_rfl) rfl rfl (fun _ => rfl) w_lHas_ts w_lHas_hs (fun x t hb ht => by
  obtain ⟨list0, n1, _⟩ := x
  exact (w_lHas_e list0 n1).trans ht)
end Go.Proofs.YtgflffacaobkoaaGreatDoor.V
