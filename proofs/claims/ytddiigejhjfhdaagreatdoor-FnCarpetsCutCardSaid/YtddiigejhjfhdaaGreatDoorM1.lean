/- Functions of the program, as plain functions. No condition. -/
import Derived.Test.YtddiigejhjfhdaaGreatDoorTyM
set_option linter.unusedVariables false
set_option linter.unusedSimpArgs false
set_option maxRecDepth 100000
namespace Go.Proofs.YtddiigejhjfhdaaGreatDoor.V
open Go Go.Ev Go.Proofs
/-! impl.within -/
noncomputable def c_i_within : FnCx := { env := env 15 [] [], body := bodyOf Tryz.f51, res := [.tmp 6], ins := [.ro kint, .ro kint, .ro kint], out := [(kbool, true)], T := Bool, fin := fun r => r.1.1, inj := fun t => ((t, ()), ((), (), (), ())), pts := [], fuel := 400, dr := noDr }
noncomputable def i_within (n0 : Int) (low1 : Int) (high2 : Int) : Bool :=
  bif decide (low1 ≤ n0) then decide (n0 ≤ high2) else false
theorem i_within_e (n0 : Int) (low1 : Int) (high2 : Int) : c_i_within.start c_i_within.L (n0, low1, high2, ()) = some (i_within n0 low1 high2) := by
  refine Eq.trans (b := (bif decide (low1 ≤ n0) then some (decide (n0 ≤ high2)) else some false : Option Bool)) (by kernel_rfl) ?_
  unfold i_within
  repeat (first | rfl | apply condS)
noncomputable def F_i_within : Ins c_i_within.ins → Bool := fun x => i_within x.1 x.2.1 x.2.2.1
noncomputable def S_i_within : FSpec := mkT c_i_within.env.pre c_i_within.ins c_i_within.out c_i_within.inj F_i_within
theorem h_i_within : Cert Tryz.prog 51 S_i_within := FnCx.certT (c := c_i_within) F_i_within (tyOk _ _ _) (spOk trivial) (fun _ _ _ _ _ hs => noDr_ok) Tryz.func51 rfl rfl Tryz.ntmps51 (by kernel_rfl) rfl rfl (fun _ => rfl) trivial (fun x => .inl ⟨c_i_within.start () x, fun _ => rfl⟩) (fun x hb => by
  obtain ⟨n0, low1, high2, _⟩ := x
  exact i_within_e n0 low1 high2)
/-! impl.isRoll -/
noncomputable def c_i_isRoll : FnCx := { env := env 5 [(51, S_i_within)] [], body := bodyOf Tryz.f54, res := [.tmp 2], ins := [.ro kint], out := [(kbool, true)], T := Bool, fin := fun r => r.1.1, inj := fun t => ((t, ()), ((), ())), pts := [], fuel := 400, dr := noDr }
noncomputable def i_isRoll (n0 : Int) : Bool :=
  i_within n0 1 2000
theorem i_isRoll_e (n0 : Int) : c_i_isRoll.start c_i_isRoll.L (n0, ()) = some (i_isRoll n0) := by kernel_rfl
noncomputable def F_i_isRoll : Ins c_i_isRoll.ins → Bool := fun x => i_isRoll x.1
noncomputable def S_i_isRoll : FSpec := mkT c_i_isRoll.env.pre c_i_isRoll.ins c_i_isRoll.out c_i_isRoll.inj F_i_isRoll
theorem h_i_isRoll : Cert Tryz.prog 54 S_i_isRoll := FnCx.certT (c := c_i_isRoll) F_i_isRoll (tyOk _ _ _) (spOk ⟨h_i_within, fun _ _ h => h, trivial⟩) (fun _ _ _ _ _ hs => noDr_ok) Tryz.func54 rfl rfl Tryz.ntmps54 (by kernel_rfl) rfl rfl (fun _ => rfl) trivial (fun x => .inl ⟨c_i_isRoll.start () x, fun _ => rfl⟩) (fun x hb => by
  obtain ⟨n0, _⟩ := x
  exact i_isRoll_e n0)
/-! impl.AreRolls$1 -/
noncomputable def c_i_AreRolls_c1 : FnCx := { env := env 6 [(54, S_i_isRoll)] [], body := bodyOf Tryz.f53, res := [.tmp 2], ins := [.ro kint], out := [(kbool, true)], T := Bool, fin := fun r => r.1.1, inj := fun t => ((t, ()), ((), ())), pts := [], fuel := 400, dr := noDr }
noncomputable def i_AreRolls_c1 (n0 : Int) : Bool :=
  !i_isRoll n0
theorem i_AreRolls_c1_e (n0 : Int) : c_i_AreRolls_c1.start c_i_AreRolls_c1.L (n0, ()) = some (i_AreRolls_c1 n0) := by kernel_rfl
noncomputable def F_i_AreRolls_c1 : Ins c_i_AreRolls_c1.ins → Bool := fun x => i_AreRolls_c1 x.1
noncomputable def S_i_AreRolls_c1 : FSpec := mkT c_i_AreRolls_c1.env.pre c_i_AreRolls_c1.ins c_i_AreRolls_c1.out c_i_AreRolls_c1.inj F_i_AreRolls_c1
theorem h_i_AreRolls_c1 : Cert Tryz.prog 53 S_i_AreRolls_c1 := FnCx.certT (c := c_i_AreRolls_c1) F_i_AreRolls_c1 (tyOk _ _ _) (spOk ⟨h_i_isRoll, fun _ _ h => h, trivial⟩) (fun _ _ _ _ _ hs => noDr_ok) Tryz.func53 rfl rfl Tryz.ntmps53 (by kernel_rfl) rfl rfl (fun _ => rfl) trivial (fun x => .inl ⟨c_i_AreRolls_c1.start () x, fun _ => rfl⟩) (fun x hb => by
  obtain ⟨n0, _⟩ := x
  exact i_AreRolls_c1_e n0)
/-! slices.IndexFunc[[]int,int] -/
noncomputable def c_slices_IndexFunc_int__i_AreRolls_c1 : FnCx := { env := env 19 [(53, S_i_AreRolls_c1)] [], body := bodyOf Tryz.f80, res := [.tmp 4], ins := [.ro kSint, .fn 53 []], out := [(kint, true)], T := Int, fin := fun r => r.1.1, inj := fun t => ((t, ()), ((), (), ())), pts := [([.inLoop [1, 0, 1, 0, 0], .inBlock 0, .code [1, 1]], Shape.mk [Bs.row kint 3 false] [(0, Ss.one (Cs.sl 0)), (1, Ss.fn 53 []), (7, Ss.one (Cs.sc kint)), (8, Ss.one (Cs.sc kint))] [Ss.one (Cs.any), Ss.fn 53 []])], fuel := 400, dr := noDr }
noncomputable def slices_IndexFunc_int__i_AreRolls_c1_t1 (g1 : List (Int) → Int → Int → Option (Int)) (r0 : List (Int)) (s7 : Int) (s8 : Int) : Option Int :=
  bif decide (s8 < s7) then
    bif decide (0 ≤ s8) then
      bif decide (s8 < (↑(List.length r0) : Int)) then
        bif i_AreRolls_c1 (rdk kint r0 s8) then some s8 else g1 r0 s7 (IntKind.wrap IntKind.i64 (s8 + 1))
      else none
    else none
  else some (-1)
noncomputable def slices_IndexFunc_int__i_AreRolls_c1_t0 (g1 : List (Int) → Int → Int → Option (Int)) (s0 : List Int) : Option Int :=
  g1 s0 (↑(List.length s0) : Int) 0
theorem slices_IndexFunc_int__i_AreRolls_c1_ts : Tails c_slices_IndexFunc_int__i_AreRolls_c1.pts c_slices_IndexFunc_int__i_AreRolls_c1.round :=
  ⟨fun s => by
    obtain ⟨⟨r0, _⟩, ⟨_, _, s7, s8, _⟩, ⟨_, _, _⟩⟩ := s
    refine Tail.eq (Y := fun g => slices_IndexFunc_int__i_AreRolls_c1_t1 (fun r0 s7 s8 => g.1 ((r0, ()), ((), (), s7, s8, ()), ((), (), ()))) r0 s7 s8) ?_ (fun g => by kernel_rfl)
    simp only [slices_IndexFunc_int__i_AreRolls_c1_t1]; repeat (first | exact Tail.const _ | exact Tail.here _ | exact Tail.there (Tail.here _) | exact Tail.there (Tail.there (Tail.here _)) | exact Tail.there (Tail.there (Tail.there (Tail.here _))) | exact Tail.there (Tail.there (Tail.there (Tail.there (Tail.here _)))) | exact Tail.there (Tail.there (Tail.there (Tail.there (Tail.there (Tail.here _))))) | apply Tail.cond | (apply Tail.bind; intro _)), trivial⟩
theorem slices_IndexFunc_int__i_AreRolls_c1_hs : ∀ x, Tail c_slices_IndexFunc_int__i_AreRolls_c1.pts (fun g => c_slices_IndexFunc_int__i_AreRolls_c1.start g x) := fun x => by
    obtain ⟨s0, _, _⟩ := x
    refine Tail.eq (Y := fun g => slices_IndexFunc_int__i_AreRolls_c1_t0 (fun r0 s7 s8 => g.1 ((r0, ()), ((), (), s7, s8, ()), ((), (), ()))) s0) ?_ (fun g => by kernel_rfl)
    simp only [slices_IndexFunc_int__i_AreRolls_c1_t0]; repeat (first | exact Tail.const _ | exact Tail.here _ | exact Tail.there (Tail.here _) | exact Tail.there (Tail.there (Tail.here _)) | exact Tail.there (Tail.there (Tail.there (Tail.here _))) | exact Tail.there (Tail.there (Tail.there (Tail.there (Tail.here _)))) | exact Tail.there (Tail.there (Tail.there (Tail.there (Tail.there (Tail.here _))))) | apply Tail.cond | (apply Tail.bind; intro _))
noncomputable def slices_IndexFunc_int__i_AreRolls_c1_L1 (r0 : List (Int)) (s7 : Int) (s8 : Int) : Option Int := c_slices_IndexFunc_int__i_AreRolls_c1.L.1 ((r0, ()), ((), (), s7, s8, ()), ((), (), ()))
theorem slices_IndexFunc_int__i_AreRolls_c1_u1 (r0 : List (Int)) (s7 : Int) (s8 : Int) : slices_IndexFunc_int__i_AreRolls_c1_L1 r0 s7 s8 = slices_IndexFunc_int__i_AreRolls_c1_t1 slices_IndexFunc_int__i_AreRolls_c1_L1 r0 s7 s8 :=
  (congrArg (fun g => g.1 ((r0, ()), ((), (), s7, s8, ()), ((), (), ()))) (FnCx.L_eq slices_IndexFunc_int__i_AreRolls_c1_ts)).trans (by kernel_rfl)
noncomputable def slices_IndexFunc_int__i_AreRolls_c1 (s0 : List Int) : Option Int := slices_IndexFunc_int__i_AreRolls_c1_t0 slices_IndexFunc_int__i_AreRolls_c1_L1 s0
theorem slices_IndexFunc_int__i_AreRolls_c1_e (s0 : List Int) : c_slices_IndexFunc_int__i_AreRolls_c1.start c_slices_IndexFunc_int__i_AreRolls_c1.L (s0, (), ()) = slices_IndexFunc_int__i_AreRolls_c1 s0 := by kernel_rfl
-- NICE tot
noncomputable def slices_IndexFunc_int__i_AreRolls_c1_n (l : List Int) : Int := idxF (fun x => i_AreRolls_c1 x) l 0
theorem slices_IndexFunc_int__i_AreRolls_c1_ok (l : List Int) (hb : BdI c_slices_IndexFunc_int__i_AreRolls_c1.ins (l, (), ())) : slices_IndexFunc_int__i_AreRolls_c1 l = some (slices_IndexFunc_int__i_AreRolls_c1_n l) :=
  have hm : l.length ≤ maxLen := hb.1.1
  loop_idx (L := fun i => slices_IndexFunc_int__i_AreRolls_c1_L1 l l.length (i : Int)) (l := l) (p := fun x => i_AreRolls_c1 x)
    (fun i h => by simp only [slices_IndexFunc_int__i_AreRolls_c1_u1 l l.length i, slices_IndexFunc_int__i_AreRolls_c1_t1, rdk_get (k := kint) h, wrapS h hm]; simp [h]) (by simp [slices_IndexFunc_int__i_AreRolls_c1_u1 l l.length l.length, slices_IndexFunc_int__i_AreRolls_c1_t1])
noncomputable def F_slices_IndexFunc_int__i_AreRolls_c1 : Ins c_slices_IndexFunc_int__i_AreRolls_c1.ins → Int := fun x => slices_IndexFunc_int__i_AreRolls_c1_n x.1
noncomputable def S_slices_IndexFunc_int__i_AreRolls_c1 : FSpec := mkT c_slices_IndexFunc_int__i_AreRolls_c1.env.pre c_slices_IndexFunc_int__i_AreRolls_c1.ins c_slices_IndexFunc_int__i_AreRolls_c1.out c_slices_IndexFunc_int__i_AreRolls_c1.inj F_slices_IndexFunc_int__i_AreRolls_c1
theorem h_slices_IndexFunc_int__i_AreRolls_c1 : Cert Tryz.prog 80 S_slices_IndexFunc_int__i_AreRolls_c1 := FnCx.certT (c := c_slices_IndexFunc_int__i_AreRolls_c1) F_slices_IndexFunc_int__i_AreRolls_c1 (tyOk _ _ _) (spOk ⟨h_i_AreRolls_c1, fun _ _ h => h, trivial⟩) (fun _ _ _ _ _ hs => noDr_ok) Tryz.func80 rfl rfl Tryz.ntmps80 (by kernel_rfl) rfl rfl (fun _ => rfl) slices_IndexFunc_int__i_AreRolls_c1_ts slices_IndexFunc_int__i_AreRolls_c1_hs (fun x hb => by
  obtain ⟨s0, _, _⟩ := x
  exact (slices_IndexFunc_int__i_AreRolls_c1_e s0).trans (slices_IndexFunc_int__i_AreRolls_c1_ok s0 hb))
/-! slices.ContainsFunc[[]int,int] -/
noncomputable def c_slices_ContainsFunc_int__i_AreRolls_c1 : FnCx := { env := env 9 [(80, S_slices_IndexFunc_int__i_AreRolls_c1)] [], body := bodyOf Tryz.f52, res := [.tmp 4], ins := [.ro kSint, .fn 53 []], out := [(kbool, true)], T := Bool, fin := fun r => r.1.1, inj := fun t => ((t, ()), ((), (), ())), pts := [], fuel := 400, dr := noDr }
noncomputable def slices_ContainsFunc_int__i_AreRolls_c1 (s0 : List Int) : Bool :=
  decide (slices_IndexFunc_int__i_AreRolls_c1_n s0 ≥ 0)
theorem slices_ContainsFunc_int__i_AreRolls_c1_e (s0 : List Int) : c_slices_ContainsFunc_int__i_AreRolls_c1.start c_slices_ContainsFunc_int__i_AreRolls_c1.L (s0, (), ()) = some (slices_ContainsFunc_int__i_AreRolls_c1 s0) := by kernel_rfl
noncomputable def F_slices_ContainsFunc_int__i_AreRolls_c1 : Ins c_slices_ContainsFunc_int__i_AreRolls_c1.ins → Bool := fun x => slices_ContainsFunc_int__i_AreRolls_c1 x.1
noncomputable def S_slices_ContainsFunc_int__i_AreRolls_c1 : FSpec := mkT c_slices_ContainsFunc_int__i_AreRolls_c1.env.pre c_slices_ContainsFunc_int__i_AreRolls_c1.ins c_slices_ContainsFunc_int__i_AreRolls_c1.out c_slices_ContainsFunc_int__i_AreRolls_c1.inj F_slices_ContainsFunc_int__i_AreRolls_c1
theorem h_slices_ContainsFunc_int__i_AreRolls_c1 : Cert Tryz.prog 52 S_slices_ContainsFunc_int__i_AreRolls_c1 := FnCx.certT (c := c_slices_ContainsFunc_int__i_AreRolls_c1) F_slices_ContainsFunc_int__i_AreRolls_c1 (tyOk _ _ _) (spOk ⟨h_slices_IndexFunc_int__i_AreRolls_c1, fun _ _ h => h, trivial⟩) (fun _ _ _ _ _ hs => noDr_ok) Tryz.func52 rfl rfl Tryz.ntmps52 (by kernel_rfl) rfl rfl (fun _ => rfl) trivial (fun x => .inl ⟨c_slices_ContainsFunc_int__i_AreRolls_c1.start () x, fun _ => rfl⟩) (fun x hb => by
  obtain ⟨s0, _, _⟩ := x
  exact slices_ContainsFunc_int__i_AreRolls_c1_e s0)
/-! impl.AreRolls -/
noncomputable def c_i_AreRolls : FnCx := { env := env 11 [(51, S_i_within), (52, S_slices_ContainsFunc_int__i_AreRolls_c1)] [], body := bodyOf Tryz.f16, res := [.tmp 2], ins := [.ro kSint], out := [(kbool, true)], T := Bool, fin := fun r => r.1.1, inj := fun t => ((t, ()), ((), ())), pts := [], fuel := 400, dr := noDr }
noncomputable def i_AreRolls (rolls0 : List Int) : Bool :=
  bif i_within (↑(List.length rolls0) : Int) 1 8 then !slices_ContainsFunc_int__i_AreRolls_c1 rolls0 else false
theorem i_AreRolls_e (rolls0 : List Int) : c_i_AreRolls.start c_i_AreRolls.L (rolls0, ()) = some (i_AreRolls rolls0) := by
  refine Eq.trans (b := (bif i_within (↑(List.length rolls0) : Int) 1 8 then some !slices_ContainsFunc_int__i_AreRolls_c1 rolls0 else some false : Option Bool)) (by kernel_rfl) ?_
  unfold i_AreRolls
  repeat (first | rfl | apply condS)
noncomputable def F_i_AreRolls : Ins c_i_AreRolls.ins → Bool := fun x => i_AreRolls x.1
noncomputable def S_i_AreRolls : FSpec := mkT c_i_AreRolls.env.pre c_i_AreRolls.ins c_i_AreRolls.out c_i_AreRolls.inj F_i_AreRolls
theorem h_i_AreRolls : Cert Tryz.prog 16 S_i_AreRolls := FnCx.certT (c := c_i_AreRolls) F_i_AreRolls (tyOk _ _ _) (spOk ⟨h_i_within, fun _ _ h => h, ⟨h_slices_ContainsFunc_int__i_AreRolls_c1, fun _ _ h => h, trivial⟩⟩) (fun _ _ _ _ _ hs => noDr_ok) Tryz.func16 rfl rfl Tryz.ntmps16 (by kernel_rfl) rfl rfl (fun _ => rfl) trivial (fun x => .inl ⟨c_i_AreRolls.start () x, fun _ => rfl⟩) (fun x hb => by
  obtain ⟨rolls0, _⟩ := x
  exact i_AreRolls_e rolls0)
/-! impl.isCover -/
noncomputable def c_i_isCover : FnCx := { env := env 5 [(51, S_i_within)] [], body := bodyOf Tryz.f48, res := [.tmp 2], ins := [.ro kint], out := [(kbool, true)], T := Bool, fin := fun r => r.1.1, inj := fun t => ((t, ()), ((), ())), pts := [], fuel := 400, dr := noDr }
noncomputable def i_isCover (n0 : Int) : Bool :=
  i_within n0 1 100
theorem i_isCover_e (n0 : Int) : c_i_isCover.start c_i_isCover.L (n0, ()) = some (i_isCover n0) := by kernel_rfl
noncomputable def F_i_isCover : Ins c_i_isCover.ins → Bool := fun x => i_isCover x.1
noncomputable def S_i_isCover : FSpec := mkT c_i_isCover.env.pre c_i_isCover.ins c_i_isCover.out c_i_isCover.inj F_i_isCover
theorem h_i_isCover : Cert Tryz.prog 48 S_i_isCover := FnCx.certT (c := c_i_isCover) F_i_isCover (tyOk _ _ _) (spOk ⟨h_i_within, fun _ _ h => h, trivial⟩) (fun _ _ _ _ _ hs => noDr_ok) Tryz.func48 rfl rfl Tryz.ntmps48 (by kernel_rfl) rfl rfl (fun _ => rfl) trivial (fun x => .inl ⟨c_i_isCover.start () x, fun _ => rfl⟩) (fun x hb => by
  obtain ⟨n0, _⟩ := x
  exact i_isCover_e n0)
/-! impl.isNeed -/
noncomputable def c_i_isNeed : FnCx := { env := env 5 [(51, S_i_within)] [], body := bodyOf Tryz.f49, res := [.tmp 2], ins := [.ro kint], out := [(kbool, true)], T := Bool, fin := fun r => r.1.1, inj := fun t => ((t, ()), ((), ())), pts := [], fuel := 400, dr := noDr }
noncomputable def i_isNeed (n0 : Int) : Bool :=
  i_within n0 1 100
theorem i_isNeed_e (n0 : Int) : c_i_isNeed.start c_i_isNeed.L (n0, ()) = some (i_isNeed n0) := by kernel_rfl
noncomputable def F_i_isNeed : Ins c_i_isNeed.ins → Bool := fun x => i_isNeed x.1
noncomputable def S_i_isNeed : FSpec := mkT c_i_isNeed.env.pre c_i_isNeed.ins c_i_isNeed.out c_i_isNeed.inj F_i_isNeed
theorem h_i_isNeed : Cert Tryz.prog 49 S_i_isNeed := FnCx.certT (c := c_i_isNeed) F_i_isNeed (tyOk _ _ _) (spOk ⟨h_i_within, fun _ _ h => h, trivial⟩) (fun _ _ _ _ _ hs => noDr_ok) Tryz.func49 rfl rfl Tryz.ntmps49 (by kernel_rfl) rfl rfl (fun _ => rfl) trivial (fun x => .inl ⟨c_i_isNeed.start () x, fun _ => rfl⟩) (fun x hb => by
  obtain ⟨n0, _⟩ := x
  exact i_isNeed_e n0)
/-! cmp.isNaN[int] -/
noncomputable def c_cmp_isNaN_int : FnCx := { env := env 6 [] [], body := bodyOf Tryz.f118, res := [.tmp 2], ins := [.ro kint], out := [(kbool, true)], T := Bool, fin := fun r => r.1.1, inj := fun t => ((t, ()), ((), ())), pts := [], fuel := 400, dr := noDr }
noncomputable def cmp_isNaN_int (x0 : Int) : Bool :=
  x0 != x0
theorem cmp_isNaN_int_e (x0 : Int) : c_cmp_isNaN_int.start c_cmp_isNaN_int.L (x0, ()) = some (cmp_isNaN_int x0) := by kernel_rfl
noncomputable def F_cmp_isNaN_int : Ins c_cmp_isNaN_int.ins → Bool := fun x => cmp_isNaN_int x.1
noncomputable def S_cmp_isNaN_int : FSpec := mkT c_cmp_isNaN_int.env.pre c_cmp_isNaN_int.ins c_cmp_isNaN_int.out c_cmp_isNaN_int.inj F_cmp_isNaN_int
theorem h_cmp_isNaN_int [Lax] : Cert Tryz.prog 118 S_cmp_isNaN_int := FnCx.certT (c := c_cmp_isNaN_int) F_cmp_isNaN_int (tyOk _ _ _) (spOk trivial) (fun _ _ _ _ _ hs => noDr_ok) Tryz.func118 rfl rfl Tryz.ntmps118 (by kernel_rfl) rfl rfl (fun _ => rfl) trivial (fun x => .inl ⟨c_cmp_isNaN_int.start () x, fun _ => rfl⟩) (fun x hb => by
  obtain ⟨x0, _⟩ := x
  exact cmp_isNaN_int_e x0)
/-! cmp.Compare[int] -/
noncomputable def c_cmp_Compare_int : FnCx := { env := env 20 [(118, S_cmp_isNaN_int)] [], body := bodyOf Tryz.f99, res := [.tmp 4], ins := [.ro kint, .ro kint], out := [(kint, true)], T := Int, fin := fun r => r.1.1, inj := fun t => ((t, ()), ((), (), ())), pts := [], fuel := 400, dr := noDr }
noncomputable def cmp_Compare_int (x0 : Int) (y1 : Int) : Int :=
  bif cmp_isNaN_int x0 then bif cmp_isNaN_int y1 then 0 else -1
  else bif cmp_isNaN_int y1 then 1 else bif decide (x0 < y1) then -1 else bif decide (x0 > y1) then 1 else 0
theorem cmp_Compare_int_e (x0 : Int) (y1 : Int) : c_cmp_Compare_int.start c_cmp_Compare_int.L (x0, y1, ()) = some (cmp_Compare_int x0 y1) := by
  refine Eq.trans (b := (bif cmp_isNaN_int x0 then bif cmp_isNaN_int y1 then some 0 else some (-1) else bif cmp_isNaN_int y1 then some 1 else bif decide (x0 < y1) then some (-1) else bif decide (x0 > y1) then some 1 else some 0 : Option Int)) (by kernel_rfl) ?_
  unfold cmp_Compare_int
  repeat (first | rfl | apply condS)
noncomputable def F_cmp_Compare_int : Ins c_cmp_Compare_int.ins → Int := fun x => cmp_Compare_int x.1 x.2.1
noncomputable def S_cmp_Compare_int : FSpec := mkT c_cmp_Compare_int.env.pre c_cmp_Compare_int.ins c_cmp_Compare_int.out c_cmp_Compare_int.inj F_cmp_Compare_int
theorem h_cmp_Compare_int [Lax] : Cert Tryz.prog 99 S_cmp_Compare_int := FnCx.certT (c := c_cmp_Compare_int) F_cmp_Compare_int (tyOk _ _ _) (spOk ⟨h_cmp_isNaN_int, fun _ _ h => h, trivial⟩) (fun _ _ _ _ _ hs => noDr_ok) Tryz.func99 rfl rfl Tryz.ntmps99 (by kernel_rfl) rfl rfl (fun _ => rfl) trivial (fun x => .inl ⟨c_cmp_Compare_int.start () x, fun _ => rfl⟩) (fun x hb => by
  obtain ⟨x0, y1, _⟩ := x
  exact cmp_Compare_int_e x0 y1)
/-! slices.Compare[[]int,int] -/
noncomputable def c_slices_Compare_int : FnCx := { env := env 36 [(99, S_cmp_Compare_int)] [], body := bodyOf Tryz.f89, res := [.tmp 4], ins := [.ro kSint, .ro kSint], out := [(kint, true)], T := Int, fin := fun r => r.1.1, inj := fun t => ((t, ()), ((), (), ())), pts := [([.inLoop [1, 0, 1, 0, 0], .inBlock 0, .code [1, 1]], Shape.mk [Bs.row kint 3 false, Bs.row kint 3 false] [(0, Ss.one (Cs.sl 0)), (1, Ss.one (Cs.sl 1)), (9, Ss.one (Cs.sl 0)), (10, Ss.one (Cs.sc kint)), (11, Ss.one (Cs.sc kint))] [Ss.one (Cs.any), Ss.one (Cs.any)])], fuel := 400, dr := noDr }
noncomputable def slices_Compare_int_t1 (g1 : List (Int) → List (Int) → Int → Int → Option (Int)) (r0 : List (Int)) (r1 : List (Int)) (s10 : Int) (s11 : Int) : Option Int :=
  bif decide (s11 < s10) then
    bif decide (0 ≤ s11) then
      bif decide (s11 < (↑(List.length r0) : Int)) then
        bif decide (s11 ≥ (↑(List.length r1) : Int)) then some 1
        else
          bif decide (0 ≤ s11) then
            bif decide (s11 < (↑(List.length r1) : Int)) then
              bif cmp_Compare_int (rdk kint r0 s11) (rdk kint r1 s11) != 0 then
                some (cmp_Compare_int (rdk kint r0 s11) (rdk kint r1 s11))
              else g1 r0 r1 s10 (IntKind.wrap IntKind.i64 (s11 + 1))
            else none
          else none
      else none
    else none
  else bif decide ((↑(List.length r0) : Int) < (↑(List.length r1) : Int)) then some (-1) else some 0
noncomputable def slices_Compare_int_t0 (g1 : List (Int) → List (Int) → Int → Int → Option (Int)) (s10 : List Int) (s21 : List Int) : Option Int :=
  g1 s10 s21 (↑(List.length s10) : Int) 0
theorem slices_Compare_int_ts : Tails c_slices_Compare_int.pts c_slices_Compare_int.round :=
  ⟨fun s => by
    obtain ⟨⟨r0, r1, _⟩, ⟨_, _, _, s10, s11, _⟩, ⟨_, _, _⟩⟩ := s
    refine Tail.eq (Y := fun g => slices_Compare_int_t1 (fun r0 r1 s10 s11 => g.1 ((r0, r1, ()), ((), (), (), s10, s11, ()), ((), (), ()))) r0 r1 s10 s11) ?_ (fun g => by kernel_rfl)
    simp only [slices_Compare_int_t1]; repeat (first | exact Tail.const _ | exact Tail.here _ | exact Tail.there (Tail.here _) | exact Tail.there (Tail.there (Tail.here _)) | exact Tail.there (Tail.there (Tail.there (Tail.here _))) | exact Tail.there (Tail.there (Tail.there (Tail.there (Tail.here _)))) | exact Tail.there (Tail.there (Tail.there (Tail.there (Tail.there (Tail.here _))))) | apply Tail.cond | (apply Tail.bind; intro _)), trivial⟩
theorem slices_Compare_int_hs : ∀ x, Tail c_slices_Compare_int.pts (fun g => c_slices_Compare_int.start g x) := fun x => by
    obtain ⟨s10, s21, _⟩ := x
    refine Tail.eq (Y := fun g => slices_Compare_int_t0 (fun r0 r1 s10 s11 => g.1 ((r0, r1, ()), ((), (), (), s10, s11, ()), ((), (), ()))) s10 s21) ?_ (fun g => by kernel_rfl)
    simp only [slices_Compare_int_t0]; repeat (first | exact Tail.const _ | exact Tail.here _ | exact Tail.there (Tail.here _) | exact Tail.there (Tail.there (Tail.here _)) | exact Tail.there (Tail.there (Tail.there (Tail.here _))) | exact Tail.there (Tail.there (Tail.there (Tail.there (Tail.here _)))) | exact Tail.there (Tail.there (Tail.there (Tail.there (Tail.there (Tail.here _))))) | apply Tail.cond | (apply Tail.bind; intro _))
noncomputable def slices_Compare_int_L1 (r0 : List (Int)) (r1 : List (Int)) (s10 : Int) (s11 : Int) : Option Int := c_slices_Compare_int.L.1 ((r0, r1, ()), ((), (), (), s10, s11, ()), ((), (), ()))
theorem slices_Compare_int_u1 (r0 : List (Int)) (r1 : List (Int)) (s10 : Int) (s11 : Int) : slices_Compare_int_L1 r0 r1 s10 s11 = slices_Compare_int_t1 slices_Compare_int_L1 r0 r1 s10 s11 :=
  (congrArg (fun g => g.1 ((r0, r1, ()), ((), (), (), s10, s11, ()), ((), (), ()))) (FnCx.L_eq slices_Compare_int_ts)).trans (by kernel_rfl)
noncomputable def slices_Compare_int (s10 : List Int) (s21 : List Int) : Option Int := slices_Compare_int_t0 slices_Compare_int_L1 s10 s21
theorem slices_Compare_int_e (s10 : List Int) (s21 : List Int) : c_slices_Compare_int.start c_slices_Compare_int.L (s10, s21, ()) = slices_Compare_int s10 s21 := by kernel_rfl
-- NICE tot
def cmpL : List Int → List Int → Int
  | [], [] => 0
  | [], _ :: _ => -1
  | _ :: _, [] => 1
  | x :: a, y :: b => bif x == y then cmpL a b else bif decide (x < y) then -1 else 1
noncomputable def slices_Compare_int_n (a b : List Int) : Int := cmpL a b
theorem cmp_Compare_eq (x y : Int) : cmp_Compare_int x y = bif decide (x < y) then -1 else bif decide (x > y) then 1 else 0 := by
  unfold cmp_Compare_int cmp_isNaN_int
  rw [bne_self_eq_false, bne_self_eq_false]; rfl
theorem slices_Compare_int_ok (a b : List Int) (hb : BdI c_slices_Compare_int.ins (a, b, ())) : slices_Compare_int a b = some (slices_Compare_int_n a b) := by
  have hm : a.length ≤ maxLen := hb.1.1
  unfold slices_Compare_int slices_Compare_int_t0 slices_Compare_int_n
  have e := drop_ind a (fun i l => slices_Compare_int_L1 a b (a.length : Int) (i : Int) = some (cmpL l (b.drop i))) ?_ (fun i hi ih => ?_)
  · exact e
  · rw [slices_Compare_int_u1, slices_Compare_int_t1, decide_eq_false (show ¬ ((a.length : Int) < a.length) by omega), cond_false]
    by_cases c : a.length < b.length
    · rw [decide_eq_true (show (a.length : Int) < b.length by omega)]
      obtain ⟨y, l, hy⟩ : ∃ y l, b.drop a.length = y :: l := by
        cases h : b.drop a.length with
        | nil => have := congrArg List.length h; rw [List.length_drop] at this; simp at this; omega
        | cons y l => exact ⟨y, l, rfl⟩
      rw [hy]; rfl
    · rw [decide_eq_false (show ¬ (a.length : Int) < b.length by omega), List.drop_eq_nil_of_le (by omega)]; rfl
  · have c1 : (i : Int) < a.length := by omega
    rw [slices_Compare_int_u1, slices_Compare_int_t1, decide_eq_true c1, decide_eq_true (Int.natCast_nonneg i), rdk_get (k := kint) hi, wrapS hi hm]
    simp only [cond_true]
    by_cases c : i < b.length
    · rw [decide_eq_false (show ¬ ((i : Int) ≥ b.length) by omega), decide_eq_true (show (i : Int) < b.length by omega), rdk_get (k := kint) c, List.drop_eq_getElem_cons c, cmp_Compare_eq, cmpL]
      simp only [cond_true, cond_false]
      by_cases h1 : a[i] < b[i]
      · rw [decide_eq_true h1, show (a[i] == b[i]) = false from beq_eq_false_iff_ne.2 (by omega)]; rfl
      · rw [decide_eq_false h1]
        by_cases h2 : a[i] > b[i]
        · rw [decide_eq_true h2, show (a[i] == b[i]) = false from beq_eq_false_iff_ne.2 (by omega)]; rfl
        · rw [decide_eq_false h2, show (a[i] == b[i]) = true from beq_iff_eq.2 (by omega)]
          exact ih
    · rw [decide_eq_true (show (i : Int) ≥ b.length by omega), show b.drop i = [] from List.drop_eq_nil_of_le (by omega)]; rfl
noncomputable def F_slices_Compare_int : Ins c_slices_Compare_int.ins → Int := fun x => slices_Compare_int_n x.1 x.2.1
noncomputable def S_slices_Compare_int : FSpec := mkT c_slices_Compare_int.env.pre c_slices_Compare_int.ins c_slices_Compare_int.out c_slices_Compare_int.inj F_slices_Compare_int
theorem h_slices_Compare_int [Lax] : Cert Tryz.prog 89 S_slices_Compare_int := FnCx.certT (c := c_slices_Compare_int) F_slices_Compare_int (tyOk _ _ _) (spOk ⟨h_cmp_Compare_int, fun _ _ h => h, trivial⟩) (fun _ _ _ _ _ hs => noDr_ok) Tryz.func89 rfl rfl Tryz.ntmps89 (by kernel_rfl) rfl rfl (fun _ => rfl) slices_Compare_int_ts slices_Compare_int_hs (fun x hb => by
  obtain ⟨s10, s21, _⟩ := x
  exact (slices_Compare_int_e s10 s21).trans (slices_Compare_int_ok s10 s21 hb))
/-! impl.choices$1 -/
noncomputable def c_i_choices_c1 : FnCx := { env := env 10 [(89, S_slices_Compare_int)] [], body := bodyOf Tryz.f88, res := [.tmp 4], ins := [.ro kchoice, .ro kchoice], out := [(kint, true)], T := Int, fin := fun r => r.1.1, inj := fun t => ((t, ()), ((), (), ())), pts := [], fuel := 400, dr := noDr }
noncomputable def i_choices_c1 (a0_list : List Int) (a0_length : Int) (b1_list : List Int) (b1_length : Int) : Int :=
  slices_Compare_int_n a0_list b1_list
theorem i_choices_c1_e (a0_list : List Int) (a0_length : Int) (b1_list : List Int) (b1_length : Int) : c_i_choices_c1.start c_i_choices_c1.L ((a0_list, a0_length), (b1_list, b1_length), ()) = some (i_choices_c1 a0_list a0_length b1_list b1_length) := by kernel_rfl
noncomputable def F_i_choices_c1 : Ins c_i_choices_c1.ins → Int := fun x => i_choices_c1 x.1.1 x.1.2 x.2.1.1 x.2.1.2
noncomputable def S_i_choices_c1 : FSpec := mkT c_i_choices_c1.env.pre c_i_choices_c1.ins c_i_choices_c1.out c_i_choices_c1.inj F_i_choices_c1
theorem h_i_choices_c1 [Lax] : Cert Tryz.prog 88 S_i_choices_c1 := FnCx.certT (c := c_i_choices_c1) F_i_choices_c1 (tyOk _ _ _) (spOk ⟨h_slices_Compare_int, fun _ _ h => h, trivial⟩) (fun _ _ _ _ _ hs => noDr_ok) Tryz.func88 rfl rfl Tryz.ntmps88 (by kernel_rfl) rfl rfl (fun _ => rfl) trivial (fun x => .inl ⟨c_i_choices_c1.start () x, fun _ => rfl⟩) (fun x hb => by
  obtain ⟨⟨a0_list, a0_length⟩, ⟨b1_list, b1_length⟩, _⟩ := x
  exact i_choices_c1_e a0_list a0_length b1_list b1_length)
/-! slices.SortFunc[[]impl.choice,impl.choice] -/
noncomputable def slices_SortFunc_choice__i_choices_c1 (l : List (List Int × Int)) : Option (List (List Int × Int)) := sortF (q := .pair kSint kint) (e := 50) (g := 88) (fun x => some (F_i_choices_c1 x)) (l, (), ())
noncomputable def F_slices_SortFunc_choice__i_choices_c1 : Ins [.wr kSchoice, .fn 88 []] → Option (List (List Int × Int)) := fun x => slices_SortFunc_choice__i_choices_c1 x.1
noncomputable def S_slices_SortFunc_choice__i_choices_c1 : FSpec := mkF (T := List (List Int × Int)) textPre [.wr kSchoice, .fn 88 []] [] (fun t => ((), (t, (), ()))) F_slices_SortFunc_choice__i_choices_c1
theorem h_slices_SortFunc_choice__i_choices_c1 : Cert Tryz.prog 87 S_slices_SortFunc_choice__i_choices_c1 := sort_cert (q := .pair kSint kint) lsort rfl ⟨_, Tryz.func87, rfl, by kernel_rfl⟩ Tryz.isAgg50 Tryz.sizeOf50 (@certF_of_T ⟨true⟩ _ _ _ _ _ _ _ _ (@h_i_choices_c1 ⟨true⟩))
/-! impl.choices -/
noncomputable def c_i_choices : FnCx := { env := env 61 [(87, S_slices_SortFunc_choice__i_choices_c1)] [], body := bodyOf Tryz.f77, res := [.tmp 6], ins := [.ro kSint, .ro kint, .ro kint], out := [(kSchoice, true)], T := List ((List Int × Int)), fin := fun r => r.1.1, inj := fun t => ((t, ()), ((), (), (), ())), pts := [([.inLoop [1, 1, 0, 1, 0, 0], .inBlock 0, .code [1, 1, 1]], Shape.mk [Bs.row kint 3 false, Bs.row kchoice 50 true] [(0, Ss.one (Cs.sl 0)), (1, Ss.one (Cs.sc kint)), (2, Ss.one (Cs.sc kint)), (7, Ss.one (Cs.sl 1)), (16, Ss.one (Cs.sc kint)), (17, Ss.one (Cs.sc kint))] [Ss.one (Cs.any), Ss.one (Cs.any), Ss.one (Cs.any)]), ([.inLoop [1, 1, 0, 1, 0, 0, 1, 1, 0, 0, 1, 1, 0, 1, 0, 0], .inBlock 2, .code [1, 1, 0, 1, 0, 0, 1, 1, 0, 0, 1, 1, 1], .inBlock 1, .code [1, 1, 0, 1, 0, 0, 1, 1, 1], .inLoop [1, 1, 0, 1, 0, 0], .inBlock 0, .code [1, 1, 1]], Shape.mk [Bs.row kint 3 false, Bs.row kchoice 50 true, Bs.box 50 [Cs.sl 3, Cs.sc kint], Bs.row kint 3 true] [(0, Ss.one (Cs.sl 0)), (1, Ss.one (Cs.sc kint)), (2, Ss.one (Cs.sc kint)), (7, Ss.one (Cs.sl 1)), (8, Ss.one (Cs.sc kint)), (9, Ss.one (Cs.ptr 2 0)), (10, Ss.one (Cs.sc kint)), (16, Ss.one (Cs.sc kint)), (17, Ss.one (Cs.sc kint)), (21, Ss.one (Cs.sl 0)), (22, Ss.one (Cs.sc kint)), (23, Ss.one (Cs.sc kint))] [Ss.one (Cs.any), Ss.one (Cs.any), Ss.one (Cs.any)])], fuel := 400, dr := noDr }
noncomputable def i_choices_t1 (g1 : List (Int) → List ((List (Int) × Int)) → Int → Int → Int → Int → Option (List ((List Int × Int)))) (g2 : List (Int) → List ((List (Int) × Int)) → Int → List (Int) → Int → Int → Int → Int → Int → Int → Int → Int → Option (List ((List Int × Int)))) (r0 : List (Int)) (r1 : List ((List (Int) × Int))) (steps1 : Int) (need2 : Int) (s16 : Int) (s17 : Int) : Option (List ((List Int × Int))) :=
  bif decide (s17 < s16) then g2 r0 r1 0 [] steps1 need2 s17 0 s16 s17 (↑(List.length r0) : Int) 0
  else Option.bind (slices_SortFunc_choice__i_choices_c1 r1) fun r => some r
noncomputable def i_choices_t2 (g1 : List (Int) → List ((List (Int) × Int)) → Int → Int → Int → Int → Option (List ((List Int × Int)))) (g2 : List (Int) → List ((List (Int) × Int)) → Int → List (Int) → Int → Int → Int → Int → Int → Int → Int → Int → Option (List ((List Int × Int)))) (r0 : List (Int)) (r1 : List ((List (Int) × Int))) (b2_1 : Int) (r3 : List (Int)) (steps1 : Int) (need2 : Int) (bits8 : Int) (n10 : Int) (s16 : Int) (s17 : Int) (s22 : Int) (s23 : Int) : Option (List ((List Int × Int))) :=
  bif decide (s23 < s22) then
    bif decide (0 ≤ s23) then
      bif decide (s23 < (↑(List.length r0) : Int)) then
        bif decide (s23 < 0) then none
        else
          bif
              IntKind.wrap IntKind.i64
                  (↑(BitVec.toNat
                        (BitVec.ofInt (IntKind.bits IntKind.i64) (Int.fdiv bits8 (2 ^ min (Int.toNat s23) (IntKind.bits IntKind.i64))) &&&
                          BitVec.ofInt (IntKind.bits IntKind.i64) 1)) :
                    Int) ==
                1 then
            bif Nat.ble (List.length r3 + 1) 4294967296 then
              bif need2 == 0 then none
              else
                g2 r0 r1 (IntKind.wrap IntKind.i64 (b2_1 + rdk kint r0 s23)) (r3 ++ [s23]) steps1 need2 bits8
                  (IntKind.wrap IntKind.i64 (n10 + IntKind.wrap IntKind.i64 (Int.tdiv (rdk kint r0 s23) need2))) s16 s17 s22
                  (IntKind.wrap IntKind.i64 (s23 + 1))
            else none
          else g2 r0 r1 b2_1 r3 steps1 need2 bits8 n10 s16 s17 s22 (IntKind.wrap IntKind.i64 (s23 + 1))
      else none
    else none
  else
    bif decide (n10 ≥ steps1) then
      bif Nat.ble (List.length r1 + 1) 4294967296 then g1 r0 (r1 ++ [(r3, b2_1)]) steps1 need2 s16 (IntKind.wrap IntKind.i64 (s17 + 1)) else none
    else g1 r0 r1 steps1 need2 s16 (IntKind.wrap IntKind.i64 (s17 + 1))
noncomputable def i_choices_t0 (g1 : List (Int) → List ((List (Int) × Int)) → Int → Int → Int → Int → Option (List ((List Int × Int)))) (g2 : List (Int) → List ((List (Int) × Int)) → Int → List (Int) → Int → Int → Int → Int → Int → Int → Int → Int → Option (List ((List Int × Int)))) (rolls0 : List Int) (steps1 : Int) (need2 : Int) : Option (List ((List Int × Int))) :=
  g1 rolls0 [] steps1 need2 (IntKind.wrap IntKind.i64 (1 * 2 ^ min (Int.toNat (↑(List.length rolls0) : Int)) (IntKind.bits IntKind.i64))) 0
theorem i_choices_ts : Tails c_i_choices.pts c_i_choices.round :=
  ⟨fun s => by
    obtain ⟨⟨r0, r1, _⟩, ⟨_, steps1, need2, _, s16, s17, _⟩, ⟨_, _, _, _⟩⟩ := s
    refine Tail.eq (Y := fun g => i_choices_t1 (fun r0 r1 steps1 need2 s16 s17 => g.1 ((r0, r1, ()), ((), steps1, need2, (), s16, s17, ()), ((), (), (), ()))) (fun r0 r1 b2_1 r3 steps1 need2 bits8 n10 s16 s17 s22 s23 => g.2.1 ((r0, r1, ((), b2_1, ()), r3, ()), ((), steps1, need2, (), bits8, (), n10, s16, s17, (), s22, s23, ()), ((), (), (), ()))) r0 r1 steps1 need2 s16 s17) ?_ (fun g => by kernel_rfl)
    simp only [i_choices_t1]; repeat (first | exact Tail.const _ | exact Tail.here _ | exact Tail.there (Tail.here _) | exact Tail.there (Tail.there (Tail.here _)) | exact Tail.there (Tail.there (Tail.there (Tail.here _))) | exact Tail.there (Tail.there (Tail.there (Tail.there (Tail.here _)))) | exact Tail.there (Tail.there (Tail.there (Tail.there (Tail.there (Tail.here _))))) | apply Tail.cond | (apply Tail.bind; intro _)),
  fun s => by
    obtain ⟨⟨r0, r1, ⟨_, b2_1, _⟩, r3, _⟩, ⟨_, steps1, need2, _, bits8, _, n10, s16, s17, _, s22, s23, _⟩, ⟨_, _, _, _⟩⟩ := s
    refine Tail.eq (Y := fun g => i_choices_t2 (fun r0 r1 steps1 need2 s16 s17 => g.1 ((r0, r1, ()), ((), steps1, need2, (), s16, s17, ()), ((), (), (), ()))) (fun r0 r1 b2_1 r3 steps1 need2 bits8 n10 s16 s17 s22 s23 => g.2.1 ((r0, r1, ((), b2_1, ()), r3, ()), ((), steps1, need2, (), bits8, (), n10, s16, s17, (), s22, s23, ()), ((), (), (), ()))) r0 r1 b2_1 r3 steps1 need2 bits8 n10 s16 s17 s22 s23) ?_ (fun g => by kernel_rfl)
    simp only [i_choices_t2]; repeat (first | exact Tail.const _ | exact Tail.here _ | exact Tail.there (Tail.here _) | exact Tail.there (Tail.there (Tail.here _)) | exact Tail.there (Tail.there (Tail.there (Tail.here _))) | exact Tail.there (Tail.there (Tail.there (Tail.there (Tail.here _)))) | exact Tail.there (Tail.there (Tail.there (Tail.there (Tail.there (Tail.here _))))) | apply Tail.cond | (apply Tail.bind; intro _)), trivial⟩
theorem i_choices_hs : ∀ x, Tail c_i_choices.pts (fun g => c_i_choices.start g x) := fun x => by
    obtain ⟨rolls0, steps1, need2, _⟩ := x
    refine Tail.eq (Y := fun g => i_choices_t0 (fun r0 r1 steps1 need2 s16 s17 => g.1 ((r0, r1, ()), ((), steps1, need2, (), s16, s17, ()), ((), (), (), ()))) (fun r0 r1 b2_1 r3 steps1 need2 bits8 n10 s16 s17 s22 s23 => g.2.1 ((r0, r1, ((), b2_1, ()), r3, ()), ((), steps1, need2, (), bits8, (), n10, s16, s17, (), s22, s23, ()), ((), (), (), ()))) rolls0 steps1 need2) ?_ (fun g => by kernel_rfl)
    simp only [i_choices_t0]; repeat (first | exact Tail.const _ | exact Tail.here _ | exact Tail.there (Tail.here _) | exact Tail.there (Tail.there (Tail.here _)) | exact Tail.there (Tail.there (Tail.there (Tail.here _))) | exact Tail.there (Tail.there (Tail.there (Tail.there (Tail.here _)))) | exact Tail.there (Tail.there (Tail.there (Tail.there (Tail.there (Tail.here _))))) | apply Tail.cond | (apply Tail.bind; intro _))
noncomputable def i_choices_L1 (r0 : List (Int)) (r1 : List ((List (Int) × Int))) (steps1 : Int) (need2 : Int) (s16 : Int) (s17 : Int) : Option (List ((List Int × Int))) := c_i_choices.L.1 ((r0, r1, ()), ((), steps1, need2, (), s16, s17, ()), ((), (), (), ()))
noncomputable def i_choices_L2 (r0 : List (Int)) (r1 : List ((List (Int) × Int))) (b2_1 : Int) (r3 : List (Int)) (steps1 : Int) (need2 : Int) (bits8 : Int) (n10 : Int) (s16 : Int) (s17 : Int) (s22 : Int) (s23 : Int) : Option (List ((List Int × Int))) := c_i_choices.L.2.1 ((r0, r1, ((), b2_1, ()), r3, ()), ((), steps1, need2, (), bits8, (), n10, s16, s17, (), s22, s23, ()), ((), (), (), ()))
theorem i_choices_u1 (r0 : List (Int)) (r1 : List ((List (Int) × Int))) (steps1 : Int) (need2 : Int) (s16 : Int) (s17 : Int) : i_choices_L1 r0 r1 steps1 need2 s16 s17 = i_choices_t1 i_choices_L1 i_choices_L2 r0 r1 steps1 need2 s16 s17 :=
  (congrArg (fun g => g.1 ((r0, r1, ()), ((), steps1, need2, (), s16, s17, ()), ((), (), (), ()))) (FnCx.L_eq i_choices_ts)).trans (by kernel_rfl)
theorem i_choices_u2 (r0 : List (Int)) (r1 : List ((List (Int) × Int))) (b2_1 : Int) (r3 : List (Int)) (steps1 : Int) (need2 : Int) (bits8 : Int) (n10 : Int) (s16 : Int) (s17 : Int) (s22 : Int) (s23 : Int) : i_choices_L2 r0 r1 b2_1 r3 steps1 need2 bits8 n10 s16 s17 s22 s23 = i_choices_t2 i_choices_L1 i_choices_L2 r0 r1 b2_1 r3 steps1 need2 bits8 n10 s16 s17 s22 s23 :=
  (congrArg (fun g => g.2.1 ((r0, r1, ((), b2_1, ()), r3, ()), ((), steps1, need2, (), bits8, (), n10, s16, s17, (), s22, s23, ()), ((), (), (), ()))) (FnCx.L_eq i_choices_ts)).trans (by kernel_rfl)
noncomputable def i_choices (rolls0 : List Int) (steps1 : Int) (need2 : Int) : Option (List ((List Int × Int))) := i_choices_t0 i_choices_L1 i_choices_L2 rolls0 steps1 need2
theorem i_choices_e (rolls0 : List Int) (steps1 : Int) (need2 : Int) : c_i_choices.start c_i_choices.L (rolls0, steps1, need2, ()) = i_choices rolls0 steps1 need2 := by kernel_rfl
noncomputable def F_i_choices : Ins c_i_choices.ins → Option (List ((List Int × Int))) := fun x => i_choices x.1 x.2.1 x.2.2.1
noncomputable def S_i_choices : FSpec := mkF c_i_choices.env.pre c_i_choices.ins c_i_choices.out c_i_choices.inj F_i_choices
theorem h_i_choices : Cert Tryz.prog 77 S_i_choices := FnCx.certF (c := c_i_choices) F_i_choices (tyOk _ _ _) (spOk ⟨h_slices_SortFunc_choice__i_choices_c1, fun _ _ h => h, trivial⟩) (fun _ _ _ _ _ hs => noDr_ok) Tryz.func77 rfl rfl Tryz.ntmps77 (by kernel_rfl) rfl rfl (fun _ => rfl) i_choices_ts i_choices_hs (fun x t hb ht => by
  obtain ⟨rolls0, steps1, need2, _⟩ := x
  exact (i_choices_e rolls0 steps1 need2).trans ht)
/-! impl.many -/
noncomputable def c_i_many : FnCx := { env := env 6 [] [], body := bodyOf Tryz.f44, res := [.tmp 2], ins := [.ro kchoice], out := [(kint, true)], T := Int, fin := fun r => r.1.1, inj := fun t => ((t, ()), ((), ())), pts := [], fuel := 400, dr := noDr }
noncomputable def i_many (c0_list : List Int) (c0_length : Int) : Int :=
  (↑(List.length c0_list) : Int)
theorem i_many_e (c0_list : List Int) (c0_length : Int) : c_i_many.start c_i_many.L ((c0_list, c0_length), ()) = some (i_many c0_list c0_length) := by kernel_rfl
noncomputable def F_i_many : Ins c_i_many.ins → Int := fun x => i_many x.1.1 x.1.2
noncomputable def S_i_many : FSpec := mkT c_i_many.env.pre c_i_many.ins c_i_many.out c_i_many.inj F_i_many
theorem h_i_many : Cert Tryz.prog 44 S_i_many := FnCx.certT (c := c_i_many) F_i_many (tyOk _ _ _) (spOk trivial) (fun _ _ _ _ _ hs => noDr_ok) Tryz.func44 rfl rfl Tryz.ntmps44 (by kernel_rfl) rfl rfl (fun _ => rfl) trivial (fun x => .inl ⟨c_i_many.start () x, fun _ => rfl⟩) (fun x hb => by
  obtain ⟨⟨c0_list, c0_length⟩, _⟩ := x
  exact i_many_e c0_list c0_length)
/-! impl.least -/
noncomputable def c_i_least__i_many : FnCx := { env := env 53 [(16, S_i_AreRolls), (48, S_i_isCover), (49, S_i_isNeed), (77, S_i_choices), (44, S_i_many)] [], body := bodyOf Tryz.f43, res := [.cell 8 50, .tmp 9], ins := [.ro kSint, .ro kint, .ro kint, .fn 44 []], out := [(kchoice, false), (kbool, true)], T := (List Int × Int) × Bool, fin := fun r => (r.1.1, r.1.2.1), inj := fun t => ((t.1, t.2, ()), ((), (), (), (), ())), pts := [([.inLoop [1, 1, 1, 0, 1, 0, 0], .inBlock 0, .code [1, 1, 1, 1]], Shape.mk [Bs.box 50 [Cs.sl 3, Cs.sc kint], Bs.box 50 [Cs.sl 4, Cs.sc kint], Bs.row kchoice 50 false, Bs.row kint 3 true, Bs.row kint 3 false] [(3, Ss.fn 44 []), (8, Ss.one (Cs.ptr 0 0)), (10, Ss.one (Cs.ptr 1 0)), (11, Ss.one (Cs.sc kbool)), (32, Ss.one (Cs.sl 2)), (33, Ss.one (Cs.sc kint)), (34, Ss.one (Cs.sc kint))] [Ss.one (Cs.any), Ss.one (Cs.any), Ss.one (Cs.any), Ss.fn 44 []])], fuel := 400, dr := evDr (env 53 [(16, S_i_AreRolls), (48, S_i_isCover), (49, S_i_isNeed), (77, S_i_choices), (44, S_i_many)] []) }
noncomputable def i_least__i_many_t1 (g1 : Int → Int → List ((List (Int) × Int)) → List (Int) → List (Int) → Bool → Int → Int → Option ((List Int × Int) × Bool)) (b0_1 : Int) (b1_1 : Int) (r2 : List ((List (Int) × Int))) (r3 : List (Int)) (r4 : List (Int)) (ok11 : Bool) (s33 : Int) (s34 : Int) : Option ((List Int × Int) × Bool) :=
  bif decide (s34 < s33) then
    bif decide (0 ≤ s34) then
      bif decide (s34 < (↑(List.length r2) : Int)) then
        bif !ok11 then
          g1 b0_1 (Prod.snd (rdk kchoice r2 s34)) r2 r3
            (Prod.fst (rdk kchoice r2 s34)) true s33 (IntKind.wrap IntKind.i64 (s34 + 1))
        else
          bif
              decide
                (i_many (Prod.fst (rdk kchoice r2 s34))
                    (Prod.snd (rdk kchoice r2 s34)) <
                  i_many r4 b1_1) then
            g1 b0_1 (Prod.snd (rdk kchoice r2 s34)) r2 r3
              (Prod.fst (rdk kchoice r2 s34)) true s33 (IntKind.wrap IntKind.i64 (s34 + 1))
          else g1 b0_1 b1_1 r2 r3 r4 ok11 s33 (IntKind.wrap IntKind.i64 (s34 + 1))
      else none
    else none
  else some ((r4, b1_1), ok11)
noncomputable def i_least__i_many_t0 (g1 : Int → Int → List ((List (Int) × Int)) → List (Int) → List (Int) → Bool → Int → Int → Option ((List Int × Int) × Bool)) (rolls0 : List Int) (steps1 : Int) (need2 : Int) : Option ((List Int × Int) × Bool) :=
  bif !i_AreRolls rolls0 then some (([], 0), false)
  else
    bif !i_isCover steps1 then some (([], 0), false)
    else bif !i_isNeed need2 then some (([], 0), false) else Option.bind (i_choices rolls0 steps1 need2) fun r => g1 0 0 r [] [] false (↑(List.length r) : Int) 0
theorem i_least__i_many_ts : Tails c_i_least__i_many.pts c_i_least__i_many.round :=
  ⟨fun s => by
    obtain ⟨⟨⟨_, b0_1, _⟩, ⟨_, b1_1, _⟩, r2, r3, r4, _⟩, ⟨_, _, _, ok11, _, s33, s34, _⟩, ⟨_, _, _, _, _⟩⟩ := s
    refine Tail.eq (Y := fun g => i_least__i_many_t1 (fun b0_1 b1_1 r2 r3 r4 ok11 s33 s34 => g.1 ((((), b0_1, ()), ((), b1_1, ()), r2, r3, r4, ()), ((), (), (), ok11, (), s33, s34, ()), ((), (), (), (), ()))) b0_1 b1_1 r2 r3 r4 ok11 s33 s34) ?_ (fun g => by kernel_rfl)
    simp only [i_least__i_many_t1]; repeat (first | exact Tail.const _ | exact Tail.here _ | exact Tail.there (Tail.here _) | exact Tail.there (Tail.there (Tail.here _)) | exact Tail.there (Tail.there (Tail.there (Tail.here _))) | exact Tail.there (Tail.there (Tail.there (Tail.there (Tail.here _)))) | exact Tail.there (Tail.there (Tail.there (Tail.there (Tail.there (Tail.here _))))) | apply Tail.cond | (apply Tail.bind; intro _)), trivial⟩
theorem i_least__i_many_hs : ∀ x, Tail c_i_least__i_many.pts (fun g => c_i_least__i_many.start g x) := fun x => by
    obtain ⟨rolls0, steps1, need2, _, _⟩ := x
    refine Tail.eq (Y := fun g => i_least__i_many_t0 (fun b0_1 b1_1 r2 r3 r4 ok11 s33 s34 => g.1 ((((), b0_1, ()), ((), b1_1, ()), r2, r3, r4, ()), ((), (), (), ok11, (), s33, s34, ()), ((), (), (), (), ()))) rolls0 steps1 need2) ?_ (fun g => by kernel_rfl)
    simp only [i_least__i_many_t0]; repeat (first | exact Tail.const _ | exact Tail.here _ | exact Tail.there (Tail.here _) | exact Tail.there (Tail.there (Tail.here _)) | exact Tail.there (Tail.there (Tail.there (Tail.here _))) | exact Tail.there (Tail.there (Tail.there (Tail.there (Tail.here _)))) | exact Tail.there (Tail.there (Tail.there (Tail.there (Tail.there (Tail.here _))))) | apply Tail.cond | (apply Tail.bind; intro _))
noncomputable def i_least__i_many_L1 (b0_1 : Int) (b1_1 : Int) (r2 : List ((List (Int) × Int))) (r3 : List (Int)) (r4 : List (Int)) (ok11 : Bool) (s33 : Int) (s34 : Int) : Option ((List Int × Int) × Bool) := c_i_least__i_many.L.1 ((((), b0_1, ()), ((), b1_1, ()), r2, r3, r4, ()), ((), (), (), ok11, (), s33, s34, ()), ((), (), (), (), ()))
theorem i_least__i_many_u1 (b0_1 : Int) (b1_1 : Int) (r2 : List ((List (Int) × Int))) (r3 : List (Int)) (r4 : List (Int)) (ok11 : Bool) (s33 : Int) (s34 : Int) : i_least__i_many_L1 b0_1 b1_1 r2 r3 r4 ok11 s33 s34 = i_least__i_many_t1 i_least__i_many_L1 b0_1 b1_1 r2 r3 r4 ok11 s33 s34 :=
  (congrArg (fun g => g.1 ((((), b0_1, ()), ((), b1_1, ()), r2, r3, r4, ()), ((), (), (), ok11, (), s33, s34, ()), ((), (), (), (), ()))) (FnCx.L_eq i_least__i_many_ts)).trans (by kernel_rfl)
noncomputable def i_least__i_many (rolls0 : List Int) (steps1 : Int) (need2 : Int) : Option ((List Int × Int) × Bool) := i_least__i_many_t0 i_least__i_many_L1 rolls0 steps1 need2
theorem i_least__i_many_e (rolls0 : List Int) (steps1 : Int) (need2 : Int) : c_i_least__i_many.start c_i_least__i_many.L (rolls0, steps1, need2, (), ()) = i_least__i_many rolls0 steps1 need2 := by kernel_rfl
noncomputable def F_i_least__i_many : Ins c_i_least__i_many.ins → Option ((List Int × Int) × Bool) := fun x => i_least__i_many x.1 x.2.1 x.2.2.1
noncomputable def S_i_least__i_many : FSpec := mkF c_i_least__i_many.env.pre c_i_least__i_many.ins c_i_least__i_many.out c_i_least__i_many.inj F_i_least__i_many
theorem h_i_least__i_many : Cert Tryz.prog 43 S_i_least__i_many := FnCx.certF (c := c_i_least__i_many) F_i_least__i_many (tyOk _ _ _) (spOk ⟨h_i_AreRolls, fun _ _ h => h, ⟨h_i_isCover, fun _ _ h => h, ⟨h_i_isNeed, fun _ _ h => h, ⟨h_i_choices, fun _ _ h => h, ⟨h_i_many, fun _ _ h => h, trivial⟩⟩⟩⟩⟩) (fun _ _ _ _ _ hs => evDr_ok (tyOk _ _ _) hs follows) Tryz.func43 rfl rfl Tryz.ntmps43 (by kernel_rfl) rfl rfl (fun _ => rfl) i_least__i_many_ts i_least__i_many_hs (fun x t hb ht => by
  obtain ⟨rolls0, steps1, need2, _, _⟩ := x
  exact (i_least__i_many_e rolls0 steps1 need2).trans ht)
/-! impl.FirstRolls -/
noncomputable def c_i_FirstRolls : FnCx := { env := env 20 [(43, S_i_least__i_many)] [], body := bodyOf Tryz.f5, res := [.tmp 6, .tmp 7], ins := [.ro kSint, .ro kint, .ro kint], out := [(kSint, false), (kbool, true)], T := List Int × Bool, fin := fun r => (r.1.1, r.1.2.1), inj := fun t => ((t.1, t.2, ()), ((), (), (), ())), pts := [], fuel := 400, dr := noDr }
noncomputable def i_FirstRolls (rolls0 : List Int) (steps1 : Int) (need2 : Int) : Option (List Int × Bool) :=
  Option.bind (i_least__i_many rolls0 steps1 need2) fun r => some (Prod.fst (Prod.fst r), Prod.snd r)
theorem i_FirstRolls_e (rolls0 : List Int) (steps1 : Int) (need2 : Int) : c_i_FirstRolls.start c_i_FirstRolls.L (rolls0, steps1, need2, ()) = i_FirstRolls rolls0 steps1 need2 := by kernel_rfl
noncomputable def F_i_FirstRolls : Ins c_i_FirstRolls.ins → Option (List Int × Bool) := fun x => i_FirstRolls x.1 x.2.1 x.2.2.1
noncomputable def S_i_FirstRolls : FSpec := mkF c_i_FirstRolls.env.pre c_i_FirstRolls.ins c_i_FirstRolls.out c_i_FirstRolls.inj F_i_FirstRolls
theorem h_i_FirstRolls : Cert Tryz.prog 5 S_i_FirstRolls := FnCx.certF (c := c_i_FirstRolls) F_i_FirstRolls (tyOk _ _ _) (spOk ⟨h_i_least__i_many, fun _ _ h => h, trivial⟩) (fun _ _ _ _ _ hs => noDr_ok) Tryz.func5 rfl rfl Tryz.ntmps5 (by kernel_rfl) rfl rfl (fun _ => rfl) trivial (fun x => .inl ⟨c_i_FirstRolls.start () x, fun _ => rfl⟩) (fun x t hb ht => by
  obtain ⟨rolls0, steps1, need2, _⟩ := x
  exact (i_FirstRolls_e rolls0 steps1 need2).trans ht)
/-! spec.l1In -/
noncomputable def c_s_l1In : FnCx := { env := env 15 [] [], body := bodyOf Tryz.f60, res := [.tmp 6], ins := [.ro kint, .ro kint, .ro kint], out := [(kbool, true)], T := Bool, fin := fun r => r.1.1, inj := fun t => ((t, ()), ((), (), (), ())), pts := [], fuel := 400, dr := noDr }
noncomputable def s_l1In (n0 : Int) (lo1 : Int) (hi2 : Int) : Bool :=
  bif decide (n0 ≥ lo1) then decide (n0 ≤ hi2) else false
theorem s_l1In_e (n0 : Int) (lo1 : Int) (hi2 : Int) : c_s_l1In.start c_s_l1In.L (n0, lo1, hi2, ()) = some (s_l1In n0 lo1 hi2) := by
  refine Eq.trans (b := (bif decide (n0 ≥ lo1) then some (decide (n0 ≤ hi2)) else some false : Option Bool)) (by kernel_rfl) ?_
  unfold s_l1In
  repeat (first | rfl | apply condS)
noncomputable def F_s_l1In : Ins c_s_l1In.ins → Bool := fun x => s_l1In x.1 x.2.1 x.2.2.1
noncomputable def S_s_l1In : FSpec := mkT c_s_l1In.env.pre c_s_l1In.ins c_s_l1In.out c_s_l1In.inj F_s_l1In
theorem h_s_l1In : Cert Tryz.prog 60 S_s_l1In := FnCx.certT (c := c_s_l1In) F_s_l1In (tyOk _ _ _) (spOk trivial) (fun _ _ _ _ _ hs => noDr_ok) Tryz.func60 rfl rfl Tryz.ntmps60 (by kernel_rfl) rfl rfl (fun _ => rfl) trivial (fun x => .inl ⟨c_s_l1In.start () x, fun _ => rfl⟩) (fun x hb => by
  obtain ⟨n0, lo1, hi2, _⟩ := x
  exact s_l1In_e n0 lo1 hi2)
/-! spec.l1All -/
noncomputable def c_s_l1All : FnCx := { env := env 21 [(60, S_s_l1In)] [], body := bodyOf Tryz.f61, res := [.tmp 6], ins := [.ro kSint, .ro kint, .ro kint], out := [(kbool, true)], T := Bool, fin := fun r => r.1.1, inj := fun t => ((t, ()), ((), (), (), ())), pts := [([.inLoop [1, 0, 1, 0, 0], .inBlock 0, .code [1, 1]], Shape.mk [Bs.row kint 3 false] [(1, Ss.one (Cs.sc kint)), (2, Ss.one (Cs.sc kint)), (9, Ss.one (Cs.sl 0)), (10, Ss.one (Cs.sc kint)), (11, Ss.one (Cs.sc kint))] [Ss.one (Cs.any), Ss.one (Cs.any), Ss.one (Cs.any)])], fuel := 400, dr := noDr }
noncomputable def s_l1All_t1 (g1 : List (Int) → Int → Int → Int → Int → Option (Bool)) (r0 : List (Int)) (lo1 : Int) (hi2 : Int) (s10 : Int) (s11 : Int) : Option Bool :=
  bif decide (s11 < s10) then
    bif decide (0 ≤ s11) then
      bif decide (s11 < (↑(List.length r0) : Int)) then
        bif !s_l1In (rdk kint r0 s11) lo1 hi2 then some false else g1 r0 lo1 hi2 s10 (IntKind.wrap IntKind.i64 (s11 + 1))
      else none
    else none
  else some true
noncomputable def s_l1All_t0 (g1 : List (Int) → Int → Int → Int → Int → Option (Bool)) (l0 : List Int) (lo1 : Int) (hi2 : Int) : Option Bool :=
  g1 l0 lo1 hi2 (↑(List.length l0) : Int) 0
theorem s_l1All_ts : Tails c_s_l1All.pts c_s_l1All.round :=
  ⟨fun s => by
    obtain ⟨⟨r0, _⟩, ⟨lo1, hi2, _, s10, s11, _⟩, ⟨_, _, _, _⟩⟩ := s
    refine Tail.eq (Y := fun g => s_l1All_t1 (fun r0 lo1 hi2 s10 s11 => g.1 ((r0, ()), (lo1, hi2, (), s10, s11, ()), ((), (), (), ()))) r0 lo1 hi2 s10 s11) ?_ (fun g => by kernel_rfl)
    simp only [s_l1All_t1]; repeat (first | exact Tail.const _ | exact Tail.here _ | exact Tail.there (Tail.here _) | exact Tail.there (Tail.there (Tail.here _)) | exact Tail.there (Tail.there (Tail.there (Tail.here _))) | exact Tail.there (Tail.there (Tail.there (Tail.there (Tail.here _)))) | exact Tail.there (Tail.there (Tail.there (Tail.there (Tail.there (Tail.here _))))) | apply Tail.cond | (apply Tail.bind; intro _)), trivial⟩
theorem s_l1All_hs : ∀ x, Tail c_s_l1All.pts (fun g => c_s_l1All.start g x) := fun x => by
    obtain ⟨l0, lo1, hi2, _⟩ := x
    refine Tail.eq (Y := fun g => s_l1All_t0 (fun r0 lo1 hi2 s10 s11 => g.1 ((r0, ()), (lo1, hi2, (), s10, s11, ()), ((), (), (), ()))) l0 lo1 hi2) ?_ (fun g => by kernel_rfl)
    simp only [s_l1All_t0]; repeat (first | exact Tail.const _ | exact Tail.here _ | exact Tail.there (Tail.here _) | exact Tail.there (Tail.there (Tail.here _)) | exact Tail.there (Tail.there (Tail.there (Tail.here _))) | exact Tail.there (Tail.there (Tail.there (Tail.there (Tail.here _)))) | exact Tail.there (Tail.there (Tail.there (Tail.there (Tail.there (Tail.here _))))) | apply Tail.cond | (apply Tail.bind; intro _))
noncomputable def s_l1All_L1 (r0 : List (Int)) (lo1 : Int) (hi2 : Int) (s10 : Int) (s11 : Int) : Option Bool := c_s_l1All.L.1 ((r0, ()), (lo1, hi2, (), s10, s11, ()), ((), (), (), ()))
theorem s_l1All_u1 (r0 : List (Int)) (lo1 : Int) (hi2 : Int) (s10 : Int) (s11 : Int) : s_l1All_L1 r0 lo1 hi2 s10 s11 = s_l1All_t1 s_l1All_L1 r0 lo1 hi2 s10 s11 :=
  (congrArg (fun g => g.1 ((r0, ()), (lo1, hi2, (), s10, s11, ()), ((), (), (), ()))) (FnCx.L_eq s_l1All_ts)).trans (by kernel_rfl)
noncomputable def s_l1All (l0 : List Int) (lo1 : Int) (hi2 : Int) : Option Bool := s_l1All_t0 s_l1All_L1 l0 lo1 hi2
theorem s_l1All_e (l0 : List Int) (lo1 : Int) (hi2 : Int) : c_s_l1All.start c_s_l1All.L (l0, lo1, hi2, ()) = s_l1All l0 lo1 hi2 := by kernel_rfl
-- NICE tot
noncomputable def s_l1All_n (l : List Int) (lo hi : Int) : Bool := l.all (inB lo hi)
theorem s_l1In_inB2 (x lo hi : Int) : s_l1In x lo hi = inB lo hi x := by
  unfold s_l1In inB
  cases h1 : decide (lo ≤ x) <;> simp_all
theorem s_l1All_ok (l : List Int) (lo hi : Int) (hb : BdI c_s_l1All.ins (l, lo, hi, ())) : s_l1All l lo hi = some (s_l1All_n l lo hi) := by
  have hm : l.length ≤ maxLen := hb.1.1
  have e := loop_any (L := fun i => s_l1All_L1 l lo hi l.length (i : Int)) (l := l) (p := fun x => !inB lo hi x) (a := false) (b := true)
    (fun i h => by simp only [s_l1All_u1 l lo hi l.length i, s_l1All_t1, rdk_get (k := kint) h, wrapS h hm, s_l1In_inB2]; simp [h]) (by simp [s_l1All_u1 l lo hi l.length l.length, s_l1All_t1])
  refine Eq.trans e (congrArg some ?_)
  unfold s_l1All_n
  rw [any_not]
noncomputable def F_s_l1All : Ins c_s_l1All.ins → Bool := fun x => s_l1All_n x.1 x.2.1 x.2.2.1
noncomputable def S_s_l1All : FSpec := mkT c_s_l1All.env.pre c_s_l1All.ins c_s_l1All.out c_s_l1All.inj F_s_l1All
theorem h_s_l1All : Cert Tryz.prog 61 S_s_l1All := FnCx.certT (c := c_s_l1All) F_s_l1All (tyOk _ _ _) (spOk ⟨h_s_l1In, fun _ _ h => h, trivial⟩) (fun _ _ _ _ _ hs => noDr_ok) Tryz.func61 rfl rfl Tryz.ntmps61 (by kernel_rfl) rfl rfl (fun _ => rfl) s_l1All_ts s_l1All_hs (fun x hb => by
  obtain ⟨l0, lo1, hi2, _⟩ := x
  exact (s_l1All_e l0 lo1 hi2).trans (s_l1All_ok l0 lo1 hi2 hb))
/-! spec.cpRolls -/
noncomputable def c_s_cpRolls : FnCx := { env := env 10 [(60, S_s_l1In), (61, S_s_l1All)] [], body := bodyOf Tryz.f55, res := [.tmp 2], ins := [.ro kSint], out := [(kbool, true)], T := Bool, fin := fun r => r.1.1, inj := fun t => ((t, ()), ((), ())), pts := [], fuel := 400, dr := noDr }
noncomputable def s_cpRolls (rolls0 : List Int) : Bool :=
  bif s_l1In (↑(List.length rolls0) : Int) 1 8 then s_l1All_n rolls0 1 2000 else false
theorem s_cpRolls_e (rolls0 : List Int) : c_s_cpRolls.start c_s_cpRolls.L (rolls0, ()) = some (s_cpRolls rolls0) := by
  refine Eq.trans (b := (bif s_l1In (↑(List.length rolls0) : Int) 1 8 then some (s_l1All_n rolls0 1 2000) else some false : Option Bool)) (by kernel_rfl) ?_
  unfold s_cpRolls
  repeat (first | rfl | apply condS)
noncomputable def F_s_cpRolls : Ins c_s_cpRolls.ins → Bool := fun x => s_cpRolls x.1
noncomputable def S_s_cpRolls : FSpec := mkT c_s_cpRolls.env.pre c_s_cpRolls.ins c_s_cpRolls.out c_s_cpRolls.inj F_s_cpRolls
theorem h_s_cpRolls : Cert Tryz.prog 55 S_s_cpRolls := FnCx.certT (c := c_s_cpRolls) F_s_cpRolls (tyOk _ _ _) (spOk ⟨h_s_l1In, fun _ _ h => h, ⟨h_s_l1All, fun _ _ h => h, trivial⟩⟩) (fun _ _ _ _ _ hs => noDr_ok) Tryz.func55 rfl rfl Tryz.ntmps55 (by kernel_rfl) rfl rfl (fun _ => rfl) trivial (fun x => .inl ⟨c_s_cpRolls.start () x, fun _ => rfl⟩) (fun x hb => by
  obtain ⟨rolls0, _⟩ := x
  exact s_cpRolls_e rolls0)
/-! spec.cpNeed -/
noncomputable def c_s_cpNeed : FnCx := { env := env 5 [(60, S_s_l1In)] [], body := bodyOf Tryz.f57, res := [.tmp 2], ins := [.ro kint], out := [(kbool, true)], T := Bool, fin := fun r => r.1.1, inj := fun t => ((t, ()), ((), ())), pts := [], fuel := 400, dr := noDr }
noncomputable def s_cpNeed (need0 : Int) : Bool :=
  s_l1In need0 1 100
theorem s_cpNeed_e (need0 : Int) : c_s_cpNeed.start c_s_cpNeed.L (need0, ()) = some (s_cpNeed need0) := by kernel_rfl
noncomputable def F_s_cpNeed : Ins c_s_cpNeed.ins → Bool := fun x => s_cpNeed x.1
noncomputable def S_s_cpNeed : FSpec := mkT c_s_cpNeed.env.pre c_s_cpNeed.ins c_s_cpNeed.out c_s_cpNeed.inj F_s_cpNeed
theorem h_s_cpNeed : Cert Tryz.prog 57 S_s_cpNeed := FnCx.certT (c := c_s_cpNeed) F_s_cpNeed (tyOk _ _ _) (spOk ⟨h_s_l1In, fun _ _ h => h, trivial⟩) (fun _ _ _ _ _ hs => noDr_ok) Tryz.func57 rfl rfl Tryz.ntmps57 (by kernel_rfl) rfl rfl (fun _ => rfl) trivial (fun x => .inl ⟨c_s_cpNeed.start () x, fun _ => rfl⟩) (fun x hb => by
  obtain ⟨need0, _⟩ := x
  exact s_cpNeed_e need0)
/-! spec.cpSteps -/
noncomputable def c_s_cpSteps : FnCx := { env := env 11 [(60, S_s_l1In), (57, S_s_cpNeed)] [], body := bodyOf Tryz.f78, res := [.tmp 4], ins := [.ro kint, .ro kint], out := [(kbool, true)], T := Bool, fin := fun r => r.1.1, inj := fun t => ((t, ()), ((), (), ())), pts := [], fuel := 400, dr := noDr }
noncomputable def s_cpSteps (steps0 : Int) (need1 : Int) : Bool :=
  bif s_l1In steps0 1 100 then s_cpNeed need1 else false
theorem s_cpSteps_e (steps0 : Int) (need1 : Int) : c_s_cpSteps.start c_s_cpSteps.L (steps0, need1, ()) = some (s_cpSteps steps0 need1) := by
  refine Eq.trans (b := (bif s_l1In steps0 1 100 then some (s_cpNeed need1) else some false : Option Bool)) (by kernel_rfl) ?_
  unfold s_cpSteps
  repeat (first | rfl | apply condS)
noncomputable def F_s_cpSteps : Ins c_s_cpSteps.ins → Bool := fun x => s_cpSteps x.1 x.2.1
noncomputable def S_s_cpSteps : FSpec := mkT c_s_cpSteps.env.pre c_s_cpSteps.ins c_s_cpSteps.out c_s_cpSteps.inj F_s_cpSteps
theorem h_s_cpSteps : Cert Tryz.prog 78 S_s_cpSteps := FnCx.certT (c := c_s_cpSteps) F_s_cpSteps (tyOk _ _ _) (spOk ⟨h_s_l1In, fun _ _ h => h, ⟨h_s_cpNeed, fun _ _ h => h, trivial⟩⟩) (fun _ _ _ _ _ hs => noDr_ok) Tryz.func78 rfl rfl Tryz.ntmps78 (by kernel_rfl) rfl rfl (fun _ => rfl) trivial (fun x => .inl ⟨c_s_cpSteps.start () x, fun _ => rfl⟩) (fun x hb => by
  obtain ⟨steps0, need1, _⟩ := x
  exact s_cpSteps_e steps0 need1)
/-! spec.cpSum -/
noncomputable def c_s_cpSum : FnCx := { env := env 21 [] [], body := bodyOf Tryz.f58, res := [.tmp 4], ins := [.ro kSint, .ro kint], out := [(kint, true)], T := Int, fin := fun r => r.1.1, inj := fun t => ((t, ()), ((), (), ())), pts := [([.inLoop [1, 1, 0, 1, 0, 0], .inBlock 0, .code [1, 1, 1]], Shape.mk [Bs.row kint 3 false] [(1, Ss.one (Cs.sc kint)), (5, Ss.one (Cs.sc kint)), (8, Ss.one (Cs.sl 0)), (9, Ss.one (Cs.sc kint)), (10, Ss.one (Cs.sc kint))] [Ss.one (Cs.any), Ss.one (Cs.any)])], fuel := 400, dr := noDr }
noncomputable def s_cpSum_t1 (g1 : List (Int) → Int → Int → Int → Int → Option (Int)) (r0 : List (Int)) (need1 : Int) (sum5 : Int) (s9 : Int) (s10 : Int) : Option Int :=
  bif decide (s10 < s9) then
    bif decide (0 ≤ s10) then
      bif decide (s10 < (↑(List.length r0) : Int)) then
        bif need1 == 0 then none
        else
          g1 r0 need1 (IntKind.wrap IntKind.i64 (sum5 + IntKind.wrap IntKind.i64 (Int.tdiv (rdk kint r0 s10) need1))) s9
            (IntKind.wrap IntKind.i64 (s10 + 1))
      else none
    else none
  else some sum5
noncomputable def s_cpSum_t0 (g1 : List (Int) → Int → Int → Int → Int → Option (Int)) (rolls0 : List Int) (need1 : Int) : Option Int :=
  g1 rolls0 need1 0 (↑(List.length rolls0) : Int) 0
theorem s_cpSum_ts : Tails c_s_cpSum.pts c_s_cpSum.round :=
  ⟨fun s => by
    obtain ⟨⟨r0, _⟩, ⟨need1, sum5, _, s9, s10, _⟩, ⟨_, _, _⟩⟩ := s
    refine Tail.eq (Y := fun g => s_cpSum_t1 (fun r0 need1 sum5 s9 s10 => g.1 ((r0, ()), (need1, sum5, (), s9, s10, ()), ((), (), ()))) r0 need1 sum5 s9 s10) ?_ (fun g => by kernel_rfl)
    simp only [s_cpSum_t1]; repeat (first | exact Tail.const _ | exact Tail.here _ | exact Tail.there (Tail.here _) | exact Tail.there (Tail.there (Tail.here _)) | exact Tail.there (Tail.there (Tail.there (Tail.here _))) | exact Tail.there (Tail.there (Tail.there (Tail.there (Tail.here _)))) | exact Tail.there (Tail.there (Tail.there (Tail.there (Tail.there (Tail.here _))))) | apply Tail.cond | (apply Tail.bind; intro _)), trivial⟩
theorem s_cpSum_hs : ∀ x, Tail c_s_cpSum.pts (fun g => c_s_cpSum.start g x) := fun x => by
    obtain ⟨rolls0, need1, _⟩ := x
    refine Tail.eq (Y := fun g => s_cpSum_t0 (fun r0 need1 sum5 s9 s10 => g.1 ((r0, ()), (need1, sum5, (), s9, s10, ()), ((), (), ()))) rolls0 need1) ?_ (fun g => by kernel_rfl)
    simp only [s_cpSum_t0]; repeat (first | exact Tail.const _ | exact Tail.here _ | exact Tail.there (Tail.here _) | exact Tail.there (Tail.there (Tail.here _)) | exact Tail.there (Tail.there (Tail.there (Tail.here _))) | exact Tail.there (Tail.there (Tail.there (Tail.there (Tail.here _)))) | exact Tail.there (Tail.there (Tail.there (Tail.there (Tail.there (Tail.here _))))) | apply Tail.cond | (apply Tail.bind; intro _))
noncomputable def s_cpSum_L1 (r0 : List (Int)) (need1 : Int) (sum5 : Int) (s9 : Int) (s10 : Int) : Option Int := c_s_cpSum.L.1 ((r0, ()), (need1, sum5, (), s9, s10, ()), ((), (), ()))
theorem s_cpSum_u1 (r0 : List (Int)) (need1 : Int) (sum5 : Int) (s9 : Int) (s10 : Int) : s_cpSum_L1 r0 need1 sum5 s9 s10 = s_cpSum_t1 s_cpSum_L1 r0 need1 sum5 s9 s10 :=
  (congrArg (fun g => g.1 ((r0, ()), (need1, sum5, (), s9, s10, ()), ((), (), ()))) (FnCx.L_eq s_cpSum_ts)).trans (by kernel_rfl)
noncomputable def s_cpSum (rolls0 : List Int) (need1 : Int) : Option Int := s_cpSum_t0 s_cpSum_L1 rolls0 need1
theorem s_cpSum_e (rolls0 : List Int) (need1 : Int) : c_s_cpSum.start c_s_cpSum.L (rolls0, need1, ()) = s_cpSum rolls0 need1 := by kernel_rfl
noncomputable def F_s_cpSum : Ins c_s_cpSum.ins → Option Int := fun x => s_cpSum x.1 x.2.1
noncomputable def S_s_cpSum : FSpec := mkF c_s_cpSum.env.pre c_s_cpSum.ins c_s_cpSum.out c_s_cpSum.inj F_s_cpSum
theorem h_s_cpSum : Cert Tryz.prog 58 S_s_cpSum := FnCx.certF (c := c_s_cpSum) F_s_cpSum (tyOk _ _ _) (spOk trivial) (fun _ _ _ _ _ hs => noDr_ok) Tryz.func58 rfl rfl Tryz.ntmps58 (by kernel_rfl) rfl rfl (fun _ => rfl) s_cpSum_ts s_cpSum_hs (fun x t hb ht => by
  obtain ⟨rolls0, need1, _⟩ := x
  exact (s_cpSum_e rolls0 need1).trans ht)
/-! spec.cpAll -/
noncomputable def c_s_cpAll : FnCx := { env := env 21 [(55, S_s_cpRolls), (78, S_s_cpSteps), (58, S_s_cpSum)] [], body := bodyOf Tryz.f45, res := [.tmp 6], ins := [.ro kSint, .ro kint, .ro kint], out := [(kbool, true)], T := Bool, fin := fun r => r.1.1, inj := fun t => ((t, ()), ((), (), (), ())), pts := [], fuel := 400, dr := noDr }
noncomputable def s_cpAll (rolls0 : List Int) (steps1 : Int) (need2 : Int) : Option Bool :=
  bif s_cpRolls rolls0 then bif s_cpSteps steps1 need2 then Option.bind (s_cpSum rolls0 need2) fun r => some (decide (r ≥ steps1)) else some false else some false
theorem s_cpAll_e (rolls0 : List Int) (steps1 : Int) (need2 : Int) : c_s_cpAll.start c_s_cpAll.L (rolls0, steps1, need2, ()) = s_cpAll rolls0 steps1 need2 := by kernel_rfl
noncomputable def F_s_cpAll : Ins c_s_cpAll.ins → Option Bool := fun x => s_cpAll x.1 x.2.1 x.2.2.1
noncomputable def S_s_cpAll : FSpec := mkF c_s_cpAll.env.pre c_s_cpAll.ins c_s_cpAll.out c_s_cpAll.inj F_s_cpAll
theorem h_s_cpAll : Cert Tryz.prog 45 S_s_cpAll := FnCx.certF (c := c_s_cpAll) F_s_cpAll (tyOk _ _ _) (spOk ⟨h_s_cpRolls, fun _ _ h => h, ⟨h_s_cpSteps, fun _ _ h => h, ⟨h_s_cpSum, fun _ _ h => h, trivial⟩⟩⟩) (fun _ _ _ _ _ hs => noDr_ok) Tryz.func45 rfl rfl Tryz.ntmps45 (by kernel_rfl) rfl rfl (fun _ => rfl) trivial (fun x => .inl ⟨c_s_cpAll.start () x, fun _ => rfl⟩) (fun x t hb ht => by
  obtain ⟨rolls0, steps1, need2, _⟩ := x
  exact (s_cpAll_e rolls0 steps1 need2).trans ht)
/-! spec.l1Own -/
noncomputable def c_s_l1Own : FnCx := { env := env 6 [] [], body := bodyOf Tryz.f90, res := [.tmp 2], ins := [.ro kSint], out := [(kSint, true)], T := List Int, fin := fun r => r.1.1, inj := fun t => ((t, ()), ((), ())), pts := [], fuel := 400, dr := noDr }
noncomputable def s_l1Own (l0 : List Int) : Option (List Int) :=
  bif Nat.ble (0 + List.length l0) 4294967296 then some ([] ++ l0) else none
theorem s_l1Own_e (l0 : List Int) : c_s_l1Own.start c_s_l1Own.L (l0, ()) = s_l1Own l0 := by kernel_rfl
-- NICE opt
noncomputable def s_l1Own_n (s : List Int) : Option (List Int) := bif decide (s.length ≤ 4294967296) then some s else none
theorem s_l1Own_ok (s : List Int) (hb : BdI c_s_l1Own.ins (s, ())) (t : List Int) (ht : s_l1Own_n s = some t) : s_l1Own s = some t := by
  unfold s_l1Own_n at ht
  cases h : decide (s.length ≤ 4294967296)
  · rw [h] at ht; cases ht
  · rw [h] at ht; cases ht
    have h := of_decide_eq_true h
    unfold s_l1Own
    simp [ble_dec, h]
noncomputable def F_s_l1Own : Ins c_s_l1Own.ins → Option (List Int) := fun x => s_l1Own_n x.1
noncomputable def S_s_l1Own : FSpec := mkF c_s_l1Own.env.pre c_s_l1Own.ins c_s_l1Own.out c_s_l1Own.inj F_s_l1Own
theorem h_s_l1Own : Cert Tryz.prog 90 S_s_l1Own := FnCx.certF (c := c_s_l1Own) F_s_l1Own (tyOk _ _ _) (spOk trivial) (fun _ _ _ _ _ hs => noDr_ok) Tryz.func90 rfl rfl Tryz.ntmps90 (by kernel_rfl) rfl rfl (fun _ => rfl) trivial (fun x => .inl ⟨c_s_l1Own.start () x, fun _ => rfl⟩) (fun x t hb ht => by
  obtain ⟨l0, _⟩ := x
  exact (s_l1Own_e l0).trans (s_l1Own_ok l0 hb t ht))
/-! spec.cpLook -/
noncomputable def SR_s_cpLook (RR : List Int → List Int → Int → Int → Int → Int → Bool → List Int → Int → Option (List Int × Int)) : FSpec := mkF (T := List Int × Int) textPre [.ro kSint, .ro kSint, .ro kint, .ro kint, .ro kint, .ro kint, .ro kbool, .ptr 22 kSint, .ptr 3 kint] [] (fun t => ((), ((), (), (), (), (), (), (), t.1, t.2, ()))) (fun x => RR x.1 x.2.1 x.2.2.1 x.2.2.2.1 x.2.2.2.2.1 x.2.2.2.2.2.1 x.2.2.2.2.2.2.1 x.2.2.2.2.2.2.2.1 x.2.2.2.2.2.2.2.2.1)
noncomputable def c_s_cpLook (RR : List Int → List Int → Int → Int → Int → Int → Bool → List Int → Int → Option (List Int × Int)) : FnCx := { env := env 75 [(79, SR_s_cpLook RR), (90, S_s_l1Own)] [], body := bodyOf Tryz.f79, res := [], ins := [.ro kSint, .ro kSint, .ro kint, .ro kint, .ro kint, .ro kint, .ro kbool, .ptr 22 kSint, .ptr 3 kint], out := [], T := List Int × Int, fin := fun r => (r.2.2.2.2.2.2.2.2.1, r.2.2.2.2.2.2.2.2.2.1), inj := fun t => ((), ((), (), (), (), (), (), (), t.1, t.2, ())), pts := [([.inLoop [1, 1, 0, 0], .inBlock 0], Shape.mk [Bs.row kint 3 false, Bs.row kint 3 false, Bs.box 22 [Cs.sl 4], Bs.box 3 [Cs.sc kint], Bs.row kint 3 false] [(0, Ss.one (Cs.sl 0)), (1, Ss.one (Cs.sl 1)), (3, Ss.one (Cs.sc kint)), (4, Ss.one (Cs.sc kint)), (5, Ss.one (Cs.sc kint)), (6, Ss.one (Cs.sc kbool)), (7, Ss.one (Cs.ptr 2 0)), (8, Ss.one (Cs.ptr 3 0)), (18, Ss.one (Cs.sc kint))] [Ss.one (Cs.any), Ss.one (Cs.any), Ss.one (Cs.any), Ss.one (Cs.any), Ss.one (Cs.any), Ss.one (Cs.any), Ss.one (Cs.any), Ss.one (Cs.ptr 2 0), Ss.one (Cs.ptr 3 0)])], fuel := 400, dr := evDr (env 75 [(79, SR_s_cpLook RR), (90, S_s_l1Own)] []) }
noncomputable def s_cpLook_t1 (RR : List Int → List Int → Int → Int → Int → Int → Bool → List Int → Int → Option (List Int × Int)) (g1 : List (Int) → List (Int) → Int → List (Int) → Int → Int → Int → Bool → Int → Option (List Int × Int)) (r0 : List (Int)) (r1 : List (Int)) (b3_0 : Int) (r4 : List (Int)) (steps3 : Int) (need4 : Int) (cost5 : Int) (length6 : Bool) (k18 : Int) : Option (List Int × Int) :=
  bif decide (k18 < (↑(List.length r0) : Int)) then
    bif length6 then
      bif decide (0 ≤ k18) then
        bif decide (k18 < (↑(List.length r0) : Int)) then
          Option.bind (s_l1Own_n r1) fun r =>
            bif Nat.ble (List.length r + 1) 4294967296 then
              bif decide (0 ≤ k18) then
                bif decide (k18 < (↑(List.length r0) : Int)) then
                  bif need4 == 0 then none
                  else
                    Option.bind
                      (RR r0 (r ++ [k18]) (IntKind.wrap IntKind.i64 (k18 + 1))
                        (IntKind.wrap IntKind.i64 (steps3 - IntKind.wrap IntKind.i64 (Int.tdiv (rdk kint r0 k18) need4))) need4
                        (IntKind.wrap IntKind.i64 (cost5 + rdk kint r0 k18)) length6 r4 b3_0)
                      fun r => g1 r0 r1 (Prod.snd r) (Prod.fst r) steps3 need4 cost5 length6 (IntKind.wrap IntKind.i64 (k18 + 1))
                else none
              else none
            else none
        else none
      else none
    else
      Option.bind (s_l1Own_n r1) fun r =>
        bif Nat.ble (List.length r + 1) 4294967296 then
          bif decide (0 ≤ k18) then
            bif decide (k18 < (↑(List.length r0) : Int)) then
              bif need4 == 0 then none
              else
                Option.bind
                  (RR r0 (r ++ [k18]) (IntKind.wrap IntKind.i64 (k18 + 1))
                    (IntKind.wrap IntKind.i64 (steps3 - IntKind.wrap IntKind.i64 (Int.tdiv (rdk kint r0 k18) need4))) need4
                    (IntKind.wrap IntKind.i64 (cost5 + 1)) length6 r4 b3_0)
                  fun r => g1 r0 r1 (Prod.snd r) (Prod.fst r) steps3 need4 cost5 length6 (IntKind.wrap IntKind.i64 (k18 + 1))
            else none
          else none
        else none
  else some (r4, b3_0)
noncomputable def s_cpLook_t0 (RR : List Int → List Int → Int → Int → Int → Int → Bool → List Int → Int → Option (List Int × Int)) (g1 : List (Int) → List (Int) → Int → List (Int) → Int → Int → Int → Bool → Int → Option (List Int × Int)) (rolls0 : List Int) (begin1 : List Int) (from2 : Int) (steps3 : Int) (need4 : Int) (cost5 : Int) (length6 : Bool) (best7 : List Int) (least8 : Int) : Option (List Int × Int) :=
  bif decide (steps3 ≤ 0) then
    bif decide (least8 < 0) then some (begin1, cost5) else bif decide (cost5 < least8) then some (begin1, cost5) else some (best7, least8)
  else g1 rolls0 begin1 least8 best7 steps3 need4 cost5 length6 from2
theorem s_cpLook_ts (RR : List Int → List Int → Int → Int → Int → Int → Bool → List Int → Int → Option (List Int × Int)) : Tails (c_s_cpLook RR).pts (c_s_cpLook RR).round :=
  ⟨fun s => by
    obtain ⟨⟨r0, r1, ⟨_, _⟩, ⟨b3_0, _⟩, r4, _⟩, ⟨_, _, steps3, need4, cost5, length6, _, _, k18, _⟩, ⟨_, _, _, _, _, _, _, _, _, _⟩⟩ := s
    refine Tail.eq (Y := fun g => (s_cpLook_t1 RR) (fun r0 r1 b3_0 r4 steps3 need4 cost5 length6 k18 => g.1 ((r0, r1, ((), ()), (b3_0, ()), r4, ()), ((), (), steps3, need4, cost5, length6, (), (), k18, ()), ((), (), (), (), (), (), (), (), (), ()))) r0 r1 b3_0 r4 steps3 need4 cost5 length6 k18) ?_ (fun g => by kernel_rfl)
    simp only [s_cpLook_t1]; repeat (first | exact Tail.const _ | exact Tail.here _ | exact Tail.there (Tail.here _) | exact Tail.there (Tail.there (Tail.here _)) | exact Tail.there (Tail.there (Tail.there (Tail.here _))) | exact Tail.there (Tail.there (Tail.there (Tail.there (Tail.here _)))) | exact Tail.there (Tail.there (Tail.there (Tail.there (Tail.there (Tail.here _))))) | apply Tail.cond | (apply Tail.bind; intro _)), trivial⟩
theorem s_cpLook_hs (RR : List Int → List Int → Int → Int → Int → Int → Bool → List Int → Int → Option (List Int × Int)) : ∀ x, Tail (c_s_cpLook RR).pts (fun g => (c_s_cpLook RR).start g x) := fun x => by
    obtain ⟨rolls0, begin1, from2, steps3, need4, cost5, length6, best7, least8, _⟩ := x
    refine Tail.eq (Y := fun g => (s_cpLook_t0 RR) (fun r0 r1 b3_0 r4 steps3 need4 cost5 length6 k18 => g.1 ((r0, r1, ((), ()), (b3_0, ()), r4, ()), ((), (), steps3, need4, cost5, length6, (), (), k18, ()), ((), (), (), (), (), (), (), (), (), ()))) rolls0 begin1 from2 steps3 need4 cost5 length6 best7 least8) ?_ (fun g => by kernel_rfl)
    simp only [s_cpLook_t0]; repeat (first | exact Tail.const _ | exact Tail.here _ | exact Tail.there (Tail.here _) | exact Tail.there (Tail.there (Tail.here _)) | exact Tail.there (Tail.there (Tail.there (Tail.here _))) | exact Tail.there (Tail.there (Tail.there (Tail.there (Tail.here _)))) | exact Tail.there (Tail.there (Tail.there (Tail.there (Tail.there (Tail.here _))))) | apply Tail.cond | (apply Tail.bind; intro _))
noncomputable def s_cpLook_L1 (RR : List Int → List Int → Int → Int → Int → Int → Bool → List Int → Int → Option (List Int × Int)) (r0 : List (Int)) (r1 : List (Int)) (b3_0 : Int) (r4 : List (Int)) (steps3 : Int) (need4 : Int) (cost5 : Int) (length6 : Bool) (k18 : Int) : Option (List Int × Int) := (c_s_cpLook RR).L.1 ((r0, r1, ((), ()), (b3_0, ()), r4, ()), ((), (), steps3, need4, cost5, length6, (), (), k18, ()), ((), (), (), (), (), (), (), (), (), ()))
theorem s_cpLook_u1 (RR : List Int → List Int → Int → Int → Int → Int → Bool → List Int → Int → Option (List Int × Int)) (r0 : List (Int)) (r1 : List (Int)) (b3_0 : Int) (r4 : List (Int)) (steps3 : Int) (need4 : Int) (cost5 : Int) (length6 : Bool) (k18 : Int) : (s_cpLook_L1 RR) r0 r1 b3_0 r4 steps3 need4 cost5 length6 k18 = (s_cpLook_t1 RR) (s_cpLook_L1 RR) r0 r1 b3_0 r4 steps3 need4 cost5 length6 k18 :=
  (congrArg (fun g => g.1 ((r0, r1, ((), ()), (b3_0, ()), r4, ()), ((), (), steps3, need4, cost5, length6, (), (), k18, ()), ((), (), (), (), (), (), (), (), (), ()))) (FnCx.L_eq (s_cpLook_ts RR))).trans (by kernel_rfl)
noncomputable def s_cpLook (RR : List Int → List Int → Int → Int → Int → Int → Bool → List Int → Int → Option (List Int × Int)) (rolls0 : List Int) (begin1 : List Int) (from2 : Int) (steps3 : Int) (need4 : Int) (cost5 : Int) (length6 : Bool) (best7 : List Int) (least8 : Int) : Option (List Int × Int) := (s_cpLook_t0 RR) (s_cpLook_L1 RR) rolls0 begin1 from2 steps3 need4 cost5 length6 best7 least8
theorem s_cpLook_e (RR : List Int → List Int → Int → Int → Int → Int → Bool → List Int → Int → Option (List Int × Int)) (rolls0 : List Int) (begin1 : List Int) (from2 : Int) (steps3 : Int) (need4 : Int) (cost5 : Int) (length6 : Bool) (best7 : List Int) (least8 : Int) : (c_s_cpLook RR).start (c_s_cpLook RR).L (rolls0, begin1, from2, steps3, need4, cost5, length6, best7, least8, ()) = (s_cpLook RR) rolls0 begin1 from2 steps3 need4 cost5 length6 best7 least8 := by kernel_rfl
noncomputable def s_cpLook_it : Nat → List Int → List Int → Int → Int → Int → Int → Bool → List Int → Int → Option (List Int × Int) := fun n => Nat.rec (fun _ _ _ _ _ _ _ _ _ => none) (fun _ RR => s_cpLook RR) n
theorem s_cpLook_is (n : Nat) (rolls0 : List Int) (begin1 : List Int) (from2 : Int) (steps3 : Int) (need4 : Int) (cost5 : Int) (length6 : Bool) (best7 : List Int) (least8 : Int) : s_cpLook_it (n + 1) rolls0 begin1 from2 steps3 need4 cost5 length6 best7 least8 = s_cpLook (s_cpLook_it n) rolls0 begin1 from2 steps3 need4 cost5 length6 best7 least8 := rfl
theorem hh_s_cpLook : ∀ n, Cert Tryz.prog 79 (SR_s_cpLook (s_cpLook_it n))
  | 0 => cert_none Tryz.func79 rfl (by kernel_rfl) rfl rfl
  | n + 1 => FnCx.certF (c := c_s_cpLook (s_cpLook_it n)) (fun x => s_cpLook_it (n + 1) x.1 x.2.1 x.2.2.1 x.2.2.2.1 x.2.2.2.2.1 x.2.2.2.2.2.1 x.2.2.2.2.2.2.1 x.2.2.2.2.2.2.2.1 x.2.2.2.2.2.2.2.2.1) (tyOk _ _ _) (spOk ⟨hh_s_cpLook n, fun _ _ h => h, ⟨h_s_l1Own, fun _ _ h => h, trivial⟩⟩) (fun _ _ _ _ _ hs => evDr_ok (tyOk _ _ _) hs follows) Tryz.func79 rfl rfl Tryz.ntmps79 (by kernel_rfl) rfl rfl (fun _ => rfl) (s_cpLook_ts _) (s_cpLook_hs _) (fun x t hb ht => by
    obtain ⟨rolls0, begin1, from2, steps3, need4, cost5, length6, best7, least8, _⟩ := x
    exact (s_cpLook_e (s_cpLook_it n) rolls0 begin1 from2 steps3 need4 cost5 length6 best7 least8).trans ht)
-- NICE rec
noncomputable def s_cpLook_n (rolls : List Int) (begin_ : List Int) (from_ steps need cost : Int) (length : Bool) (best : List Int) (least : Int) : Option (List Int × Int) := s_cpLook_it 10 rolls begin_ from_ steps need cost length best least
theorem s_cpLook_ok (rolls : List Int) (begin_ : List Int) (from_ steps need cost : Int) (length : Bool) (best : List Int) (least : Int) (t : List Int × Int) (h : s_cpLook_n rolls begin_ from_ steps need cost length best least = some t) : ∃ n, s_cpLook_it n rolls begin_ from_ steps need cost length best least = some t := ⟨10, h⟩
noncomputable def F_s_cpLook : Ins [.ro kSint, .ro kSint, .ro kint, .ro kint, .ro kint, .ro kint, .ro kbool, .ptr 22 kSint, .ptr 3 kint] → Option (List Int × Int) := fun x => s_cpLook_n x.1 x.2.1 x.2.2.1 x.2.2.2.1 x.2.2.2.2.1 x.2.2.2.2.2.1 x.2.2.2.2.2.2.1 x.2.2.2.2.2.2.2.1 x.2.2.2.2.2.2.2.2.1
noncomputable def S_s_cpLook : FSpec := mkF (T := List Int × Int) textPre [.ro kSint, .ro kSint, .ro kint, .ro kint, .ro kint, .ro kint, .ro kbool, .ptr 22 kSint, .ptr 3 kint] [] (fun t => ((), ((), (), (), (), (), (), (), t.1, t.2, ()))) F_s_cpLook
theorem h_s_cpLook : Cert Tryz.prog 79 S_s_cpLook := cert_lim hh_s_cpLook (fun x t hb ht => by
  obtain ⟨rolls0, begin1, from2, steps3, need4, cost5, length6, best7, least8, _⟩ := x
  exact s_cpLook_ok rolls0 begin1 from2 steps3 need4 cost5 length6 best7 least8 t ht)
/-! spec.cpBest -/
noncomputable def c_s_cpBest : FnCx := { env := env 19 [(79, S_s_cpLook)] [], body := bodyOf Tryz.f46, res := [.tmp 8, .tmp 9], ins := [.ro kSint, .ro kint, .ro kint, .ro kbool], out := [(kSint, false), (kint, true)], T := List Int × Int, fin := fun r => (r.1.1, r.1.2.1), inj := fun t => ((t.1, t.2, ()), ((), (), (), (), ())), pts := [], fuel := 400, dr := evDr (env 19 [(79, S_s_cpLook)] []) }
noncomputable def s_cpBest (rolls0 : List Int) (steps1 : Int) (need2 : Int) (length3 : Bool) : Option (List Int × Int) :=
  Option.bind (s_cpLook_n rolls0 [] 0 steps1 need2 0 length3 [] (-1)) fun r => some (Prod.fst r, Prod.snd r)
theorem s_cpBest_e (rolls0 : List Int) (steps1 : Int) (need2 : Int) (length3 : Bool) : c_s_cpBest.start c_s_cpBest.L (rolls0, steps1, need2, length3, ()) = s_cpBest rolls0 steps1 need2 length3 := by kernel_rfl
noncomputable def F_s_cpBest : Ins c_s_cpBest.ins → Option (List Int × Int) := fun x => s_cpBest x.1 x.2.1 x.2.2.1 x.2.2.2.1
noncomputable def S_s_cpBest : FSpec := mkF c_s_cpBest.env.pre c_s_cpBest.ins c_s_cpBest.out c_s_cpBest.inj F_s_cpBest
theorem h_s_cpBest : Cert Tryz.prog 46 S_s_cpBest := FnCx.certF (c := c_s_cpBest) F_s_cpBest (tyOk _ _ _) (spOk ⟨h_s_cpLook, fun _ _ h => h, trivial⟩) (fun _ _ _ _ _ hs => evDr_ok (tyOk _ _ _) hs follows) Tryz.func46 rfl rfl Tryz.ntmps46 (by kernel_rfl) rfl rfl (fun _ => rfl) trivial (fun x => .inl ⟨c_s_cpBest.start () x, fun _ => rfl⟩) (fun x t hb ht => by
  obtain ⟨rolls0, steps1, need2, length3, _⟩ := x
  exact (s_cpBest_e rolls0 steps1 need2 length3).trans ht)
/-! spec.FirstRolls -/
noncomputable def c_s_FirstRolls : FnCx := { env := env 23 [(45, S_s_cpAll), (46, S_s_cpBest)] [], body := bodyOf Tryz.f6, res := [.tmp 6, .tmp 7], ins := [.ro kSint, .ro kint, .ro kint], out := [(kSint, false), (kbool, true)], T := List Int × Bool, fin := fun r => (r.1.1, r.1.2.1), inj := fun t => ((t.1, t.2, ()), ((), (), (), ())), pts := [], fuel := 400, dr := noDr }
noncomputable def s_FirstRolls (rolls0 : List Int) (steps1 : Int) (need2 : Int) : Option (List Int × Bool) :=
  Option.bind (s_cpAll rolls0 steps1 need2) fun r =>
    bif !r then some ([], false) else Option.bind (s_cpBest rolls0 steps1 need2 false) fun r => some (Prod.fst r, true)
theorem s_FirstRolls_e (rolls0 : List Int) (steps1 : Int) (need2 : Int) : c_s_FirstRolls.start c_s_FirstRolls.L (rolls0, steps1, need2, ()) = s_FirstRolls rolls0 steps1 need2 := by kernel_rfl
noncomputable def F_s_FirstRolls : Ins c_s_FirstRolls.ins → Option (List Int × Bool) := fun x => s_FirstRolls x.1 x.2.1 x.2.2.1
noncomputable def S_s_FirstRolls : FSpec := mkF c_s_FirstRolls.env.pre c_s_FirstRolls.ins c_s_FirstRolls.out c_s_FirstRolls.inj F_s_FirstRolls
theorem h_s_FirstRolls : Cert Tryz.prog 6 S_s_FirstRolls := FnCx.certF (c := c_s_FirstRolls) F_s_FirstRolls (tyOk _ _ _) (spOk ⟨h_s_cpAll, fun _ _ h => h, ⟨h_s_cpBest, fun _ _ h => h, trivial⟩⟩) (fun _ _ _ _ _ hs => noDr_ok) Tryz.func6 rfl rfl Tryz.ntmps6 (by kernel_rfl) rfl rfl (fun _ => rfl) trivial (fun x => .inl ⟨c_s_FirstRolls.start () x, fun _ => rfl⟩) (fun x t hb ht => by
  obtain ⟨rolls0, steps1, need2, _⟩ := x
  exact (s_FirstRolls_e rolls0 steps1 need2).trans ht)
/-! impl.FewestRolls -/
noncomputable def c_i_FewestRolls : FnCx := { env := env 21 [(43, S_i_least__i_many)] [], body := bodyOf Tryz.f7, res := [.tmp 6, .tmp 7], ins := [.ro kSint, .ro kint, .ro kint], out := [(kint, true), (kbool, true)], T := Int × Bool, fin := fun r => (r.1.1, r.1.2.1), inj := fun t => ((t.1, t.2, ()), ((), (), (), ())), pts := [], fuel := 400, dr := noDr }
noncomputable def i_FewestRolls (rolls0 : List Int) (steps1 : Int) (need2 : Int) : Option (Int × Bool) :=
  Option.bind (i_least__i_many rolls0 steps1 need2) fun r => some ((↑(List.length (Prod.fst (Prod.fst r))) : Int), Prod.snd r)
theorem i_FewestRolls_e (rolls0 : List Int) (steps1 : Int) (need2 : Int) : c_i_FewestRolls.start c_i_FewestRolls.L (rolls0, steps1, need2, ()) = i_FewestRolls rolls0 steps1 need2 := by kernel_rfl
noncomputable def F_i_FewestRolls : Ins c_i_FewestRolls.ins → Option (Int × Bool) := fun x => i_FewestRolls x.1 x.2.1 x.2.2.1
noncomputable def S_i_FewestRolls : FSpec := mkF c_i_FewestRolls.env.pre c_i_FewestRolls.ins c_i_FewestRolls.out c_i_FewestRolls.inj F_i_FewestRolls
theorem h_i_FewestRolls : Cert Tryz.prog 7 S_i_FewestRolls := FnCx.certF (c := c_i_FewestRolls) F_i_FewestRolls (tyOk _ _ _) (spOk ⟨h_i_least__i_many, fun _ _ h => h, trivial⟩) (fun _ _ _ _ _ hs => noDr_ok) Tryz.func7 rfl rfl Tryz.ntmps7 (by kernel_rfl) rfl rfl (fun _ => rfl) trivial (fun x => .inl ⟨c_i_FewestRolls.start () x, fun _ => rfl⟩) (fun x t hb ht => by
  obtain ⟨rolls0, steps1, need2, _⟩ := x
  exact (i_FewestRolls_e rolls0 steps1 need2).trans ht)
/-! spec.FewestRolls -/
noncomputable def c_s_FewestRolls : FnCx := { env := env 23 [(45, S_s_cpAll), (46, S_s_cpBest)] [], body := bodyOf Tryz.f8, res := [.tmp 6, .tmp 7], ins := [.ro kSint, .ro kint, .ro kint], out := [(kint, true), (kbool, true)], T := Int × Bool, fin := fun r => (r.1.1, r.1.2.1), inj := fun t => ((t.1, t.2, ()), ((), (), (), ())), pts := [], fuel := 400, dr := noDr }
noncomputable def s_FewestRolls (rolls0 : List Int) (steps1 : Int) (need2 : Int) : Option (Int × Bool) :=
  Option.bind (s_cpAll rolls0 steps1 need2) fun r =>
    bif !r then some (0, false) else Option.bind (s_cpBest rolls0 steps1 need2 false) fun r => some (Prod.snd r, true)
theorem s_FewestRolls_e (rolls0 : List Int) (steps1 : Int) (need2 : Int) : c_s_FewestRolls.start c_s_FewestRolls.L (rolls0, steps1, need2, ()) = s_FewestRolls rolls0 steps1 need2 := by kernel_rfl
noncomputable def F_s_FewestRolls : Ins c_s_FewestRolls.ins → Option (Int × Bool) := fun x => s_FewestRolls x.1 x.2.1 x.2.2.1
noncomputable def S_s_FewestRolls : FSpec := mkF c_s_FewestRolls.env.pre c_s_FewestRolls.ins c_s_FewestRolls.out c_s_FewestRolls.inj F_s_FewestRolls
theorem h_s_FewestRolls : Cert Tryz.prog 8 S_s_FewestRolls := FnCx.certF (c := c_s_FewestRolls) F_s_FewestRolls (tyOk _ _ _) (spOk ⟨h_s_cpAll, fun _ _ h => h, ⟨h_s_cpBest, fun _ _ h => h, trivial⟩⟩) (fun _ _ _ _ _ hs => noDr_ok) Tryz.func8 rfl rfl Tryz.ntmps8 (by kernel_rfl) rfl rfl (fun _ => rfl) trivial (fun x => .inl ⟨c_s_FewestRolls.start () x, fun _ => rfl⟩) (fun x t hb ht => by
  obtain ⟨rolls0, steps1, need2, _⟩ := x
  exact (s_FewestRolls_e rolls0 steps1 need2).trans ht)
/-! impl.length -/
noncomputable def c_i_length : FnCx := { env := env 5 [] [], body := bodyOf Tryz.f47, res := [.tmp 2], ins := [.ro kchoice], out := [(kint, true)], T := Int, fin := fun r => r.1.1, inj := fun t => ((t, ()), ((), ())), pts := [], fuel := 400, dr := noDr }
noncomputable def i_length (c0_list : List Int) (c0_length : Int) : Int :=
  c0_length
theorem i_length_e (c0_list : List Int) (c0_length : Int) : c_i_length.start c_i_length.L ((c0_list, c0_length), ()) = some (i_length c0_list c0_length) := by kernel_rfl
noncomputable def F_i_length : Ins c_i_length.ins → Int := fun x => i_length x.1.1 x.1.2
noncomputable def S_i_length : FSpec := mkT c_i_length.env.pre c_i_length.ins c_i_length.out c_i_length.inj F_i_length
theorem h_i_length : Cert Tryz.prog 47 S_i_length := FnCx.certT (c := c_i_length) F_i_length (tyOk _ _ _) (spOk trivial) (fun _ _ _ _ _ hs => noDr_ok) Tryz.func47 rfl rfl Tryz.ntmps47 (by kernel_rfl) rfl rfl (fun _ => rfl) trivial (fun x => .inl ⟨c_i_length.start () x, fun _ => rfl⟩) (fun x hb => by
  obtain ⟨⟨c0_list, c0_length⟩, _⟩ := x
  exact i_length_e c0_list c0_length)
/-! impl.least -/
noncomputable def c_i_least__i_length : FnCx := { env := env 53 [(16, S_i_AreRolls), (48, S_i_isCover), (49, S_i_isNeed), (77, S_i_choices), (47, S_i_length)] [], body := bodyOf Tryz.f43, res := [.cell 8 50, .tmp 9], ins := [.ro kSint, .ro kint, .ro kint, .fn 47 []], out := [(kchoice, false), (kbool, true)], T := (List Int × Int) × Bool, fin := fun r => (r.1.1, r.1.2.1), inj := fun t => ((t.1, t.2, ()), ((), (), (), (), ())), pts := [([.inLoop [1, 1, 1, 0, 1, 0, 0], .inBlock 0, .code [1, 1, 1, 1]], Shape.mk [Bs.box 50 [Cs.sl 3, Cs.sc kint], Bs.box 50 [Cs.sl 4, Cs.sc kint], Bs.row kchoice 50 false, Bs.row kint 3 true, Bs.row kint 3 false] [(3, Ss.fn 47 []), (8, Ss.one (Cs.ptr 0 0)), (10, Ss.one (Cs.ptr 1 0)), (11, Ss.one (Cs.sc kbool)), (32, Ss.one (Cs.sl 2)), (33, Ss.one (Cs.sc kint)), (34, Ss.one (Cs.sc kint))] [Ss.one (Cs.any), Ss.one (Cs.any), Ss.one (Cs.any), Ss.fn 47 []])], fuel := 400, dr := evDr (env 53 [(16, S_i_AreRolls), (48, S_i_isCover), (49, S_i_isNeed), (77, S_i_choices), (47, S_i_length)] []) }
noncomputable def i_least__i_length_t1 (g1 : Int → Int → List ((List (Int) × Int)) → List (Int) → List (Int) → Bool → Int → Int → Option ((List Int × Int) × Bool)) (b0_1 : Int) (b1_1 : Int) (r2 : List ((List (Int) × Int))) (r3 : List (Int)) (r4 : List (Int)) (ok11 : Bool) (s33 : Int) (s34 : Int) : Option ((List Int × Int) × Bool) :=
  bif decide (s34 < s33) then
    bif decide (0 ≤ s34) then
      bif decide (s34 < (↑(List.length r2) : Int)) then
        bif !ok11 then
          g1 b0_1 (Prod.snd (rdk kchoice r2 s34)) r2 r3
            (Prod.fst (rdk kchoice r2 s34)) true s33 (IntKind.wrap IntKind.i64 (s34 + 1))
        else
          bif
              decide
                (i_length (Prod.fst (rdk kchoice r2 s34))
                    (Prod.snd (rdk kchoice r2 s34)) <
                  i_length r4 b1_1) then
            g1 b0_1 (Prod.snd (rdk kchoice r2 s34)) r2 r3
              (Prod.fst (rdk kchoice r2 s34)) true s33 (IntKind.wrap IntKind.i64 (s34 + 1))
          else g1 b0_1 b1_1 r2 r3 r4 ok11 s33 (IntKind.wrap IntKind.i64 (s34 + 1))
      else none
    else none
  else some ((r4, b1_1), ok11)
noncomputable def i_least__i_length_t0 (g1 : Int → Int → List ((List (Int) × Int)) → List (Int) → List (Int) → Bool → Int → Int → Option ((List Int × Int) × Bool)) (rolls0 : List Int) (steps1 : Int) (need2 : Int) : Option ((List Int × Int) × Bool) :=
  bif !i_AreRolls rolls0 then some (([], 0), false)
  else
    bif !i_isCover steps1 then some (([], 0), false)
    else bif !i_isNeed need2 then some (([], 0), false) else Option.bind (i_choices rolls0 steps1 need2) fun r => g1 0 0 r [] [] false (↑(List.length r) : Int) 0
theorem i_least__i_length_ts : Tails c_i_least__i_length.pts c_i_least__i_length.round :=
  ⟨fun s => by
    obtain ⟨⟨⟨_, b0_1, _⟩, ⟨_, b1_1, _⟩, r2, r3, r4, _⟩, ⟨_, _, _, ok11, _, s33, s34, _⟩, ⟨_, _, _, _, _⟩⟩ := s
    refine Tail.eq (Y := fun g => i_least__i_length_t1 (fun b0_1 b1_1 r2 r3 r4 ok11 s33 s34 => g.1 ((((), b0_1, ()), ((), b1_1, ()), r2, r3, r4, ()), ((), (), (), ok11, (), s33, s34, ()), ((), (), (), (), ()))) b0_1 b1_1 r2 r3 r4 ok11 s33 s34) ?_ (fun g => by kernel_rfl)
    simp only [i_least__i_length_t1]; repeat (first | exact Tail.const _ | exact Tail.here _ | exact Tail.there (Tail.here _) | exact Tail.there (Tail.there (Tail.here _)) | exact Tail.there (Tail.there (Tail.there (Tail.here _))) | exact Tail.there (Tail.there (Tail.there (Tail.there (Tail.here _)))) | exact Tail.there (Tail.there (Tail.there (Tail.there (Tail.there (Tail.here _))))) | apply Tail.cond | (apply Tail.bind; intro _)), trivial⟩
theorem i_least__i_length_hs : ∀ x, Tail c_i_least__i_length.pts (fun g => c_i_least__i_length.start g x) := fun x => by
    obtain ⟨rolls0, steps1, need2, _, _⟩ := x
    refine Tail.eq (Y := fun g => i_least__i_length_t0 (fun b0_1 b1_1 r2 r3 r4 ok11 s33 s34 => g.1 ((((), b0_1, ()), ((), b1_1, ()), r2, r3, r4, ()), ((), (), (), ok11, (), s33, s34, ()), ((), (), (), (), ()))) rolls0 steps1 need2) ?_ (fun g => by kernel_rfl)
    simp only [i_least__i_length_t0]; repeat (first | exact Tail.const _ | exact Tail.here _ | exact Tail.there (Tail.here _) | exact Tail.there (Tail.there (Tail.here _)) | exact Tail.there (Tail.there (Tail.there (Tail.here _))) | exact Tail.there (Tail.there (Tail.there (Tail.there (Tail.here _)))) | exact Tail.there (Tail.there (Tail.there (Tail.there (Tail.there (Tail.here _))))) | apply Tail.cond | (apply Tail.bind; intro _))
noncomputable def i_least__i_length_L1 (b0_1 : Int) (b1_1 : Int) (r2 : List ((List (Int) × Int))) (r3 : List (Int)) (r4 : List (Int)) (ok11 : Bool) (s33 : Int) (s34 : Int) : Option ((List Int × Int) × Bool) := c_i_least__i_length.L.1 ((((), b0_1, ()), ((), b1_1, ()), r2, r3, r4, ()), ((), (), (), ok11, (), s33, s34, ()), ((), (), (), (), ()))
theorem i_least__i_length_u1 (b0_1 : Int) (b1_1 : Int) (r2 : List ((List (Int) × Int))) (r3 : List (Int)) (r4 : List (Int)) (ok11 : Bool) (s33 : Int) (s34 : Int) : i_least__i_length_L1 b0_1 b1_1 r2 r3 r4 ok11 s33 s34 = i_least__i_length_t1 i_least__i_length_L1 b0_1 b1_1 r2 r3 r4 ok11 s33 s34 :=
  (congrArg (fun g => g.1 ((((), b0_1, ()), ((), b1_1, ()), r2, r3, r4, ()), ((), (), (), ok11, (), s33, s34, ()), ((), (), (), (), ()))) (FnCx.L_eq i_least__i_length_ts)).trans (by kernel_rfl)
noncomputable def i_least__i_length (rolls0 : List Int) (steps1 : Int) (need2 : Int) : Option ((List Int × Int) × Bool) := i_least__i_length_t0 i_least__i_length_L1 rolls0 steps1 need2
theorem i_least__i_length_e (rolls0 : List Int) (steps1 : Int) (need2 : Int) : c_i_least__i_length.start c_i_least__i_length.L (rolls0, steps1, need2, (), ()) = i_least__i_length rolls0 steps1 need2 := by kernel_rfl
noncomputable def F_i_least__i_length : Ins c_i_least__i_length.ins → Option ((List Int × Int) × Bool) := fun x => i_least__i_length x.1 x.2.1 x.2.2.1
noncomputable def S_i_least__i_length : FSpec := mkF c_i_least__i_length.env.pre c_i_least__i_length.ins c_i_least__i_length.out c_i_least__i_length.inj F_i_least__i_length
theorem h_i_least__i_length : Cert Tryz.prog 43 S_i_least__i_length := FnCx.certF (c := c_i_least__i_length) F_i_least__i_length (tyOk _ _ _) (spOk ⟨h_i_AreRolls, fun _ _ h => h, ⟨h_i_isCover, fun _ _ h => h, ⟨h_i_isNeed, fun _ _ h => h, ⟨h_i_choices, fun _ _ h => h, ⟨h_i_length, fun _ _ h => h, trivial⟩⟩⟩⟩⟩) (fun _ _ _ _ _ hs => evDr_ok (tyOk _ _ _) hs follows) Tryz.func43 rfl rfl Tryz.ntmps43 (by kernel_rfl) rfl rfl (fun _ => rfl) i_least__i_length_ts i_least__i_length_hs (fun x t hb ht => by
  obtain ⟨rolls0, steps1, need2, _, _⟩ := x
  exact (i_least__i_length_e rolls0 steps1 need2).trans ht)
/-! impl.LeastLength -/
noncomputable def c_i_LeastLength : FnCx := { env := env 20 [(43, S_i_least__i_length)] [], body := bodyOf Tryz.f9, res := [.tmp 6, .tmp 7], ins := [.ro kSint, .ro kint, .ro kint], out := [(kint, true), (kbool, true)], T := Int × Bool, fin := fun r => (r.1.1, r.1.2.1), inj := fun t => ((t.1, t.2, ()), ((), (), (), ())), pts := [], fuel := 400, dr := noDr }
noncomputable def i_LeastLength (rolls0 : List Int) (steps1 : Int) (need2 : Int) : Option (Int × Bool) :=
  Option.bind (i_least__i_length rolls0 steps1 need2) fun r => some (Prod.snd (Prod.fst r), Prod.snd r)
theorem i_LeastLength_e (rolls0 : List Int) (steps1 : Int) (need2 : Int) : c_i_LeastLength.start c_i_LeastLength.L (rolls0, steps1, need2, ()) = i_LeastLength rolls0 steps1 need2 := by kernel_rfl
noncomputable def F_i_LeastLength : Ins c_i_LeastLength.ins → Option (Int × Bool) := fun x => i_LeastLength x.1 x.2.1 x.2.2.1
noncomputable def S_i_LeastLength : FSpec := mkF c_i_LeastLength.env.pre c_i_LeastLength.ins c_i_LeastLength.out c_i_LeastLength.inj F_i_LeastLength
theorem h_i_LeastLength : Cert Tryz.prog 9 S_i_LeastLength := FnCx.certF (c := c_i_LeastLength) F_i_LeastLength (tyOk _ _ _) (spOk ⟨h_i_least__i_length, fun _ _ h => h, trivial⟩) (fun _ _ _ _ _ hs => noDr_ok) Tryz.func9 rfl rfl Tryz.ntmps9 (by kernel_rfl) rfl rfl (fun _ => rfl) trivial (fun x => .inl ⟨c_i_LeastLength.start () x, fun _ => rfl⟩) (fun x t hb ht => by
  obtain ⟨rolls0, steps1, need2, _⟩ := x
  exact (i_LeastLength_e rolls0 steps1 need2).trans ht)
/-! spec.LeastLength -/
noncomputable def c_s_LeastLength : FnCx := { env := env 23 [(45, S_s_cpAll), (46, S_s_cpBest)] [], body := bodyOf Tryz.f10, res := [.tmp 6, .tmp 7], ins := [.ro kSint, .ro kint, .ro kint], out := [(kint, true), (kbool, true)], T := Int × Bool, fin := fun r => (r.1.1, r.1.2.1), inj := fun t => ((t.1, t.2, ()), ((), (), (), ())), pts := [], fuel := 400, dr := noDr }
noncomputable def s_LeastLength (rolls0 : List Int) (steps1 : Int) (need2 : Int) : Option (Int × Bool) :=
  Option.bind (s_cpAll rolls0 steps1 need2) fun r =>
    bif !r then some (0, false) else Option.bind (s_cpBest rolls0 steps1 need2 true) fun r => some (Prod.snd r, true)
theorem s_LeastLength_e (rolls0 : List Int) (steps1 : Int) (need2 : Int) : c_s_LeastLength.start c_s_LeastLength.L (rolls0, steps1, need2, ()) = s_LeastLength rolls0 steps1 need2 := by kernel_rfl
noncomputable def F_s_LeastLength : Ins c_s_LeastLength.ins → Option (Int × Bool) := fun x => s_LeastLength x.1 x.2.1 x.2.2.1
noncomputable def S_s_LeastLength : FSpec := mkF c_s_LeastLength.env.pre c_s_LeastLength.ins c_s_LeastLength.out c_s_LeastLength.inj F_s_LeastLength
theorem h_s_LeastLength : Cert Tryz.prog 10 S_s_LeastLength := FnCx.certF (c := c_s_LeastLength) F_s_LeastLength (tyOk _ _ _) (spOk ⟨h_s_cpAll, fun _ _ h => h, ⟨h_s_cpBest, fun _ _ h => h, trivial⟩⟩) (fun _ _ _ _ _ hs => noDr_ok) Tryz.func10 rfl rfl Tryz.ntmps10 (by kernel_rfl) rfl rfl (fun _ => rfl) trivial (fun x => .inl ⟨c_s_LeastLength.start () x, fun _ => rfl⟩) (fun x t hb ht => by
  obtain ⟨rolls0, steps1, need2, _⟩ := x
  exact (s_LeastLength_e rolls0 steps1 need2).trans ht)
/-! impl.RollsOfLeast -/
noncomputable def c_i_RollsOfLeast : FnCx := { env := env 20 [(43, S_i_least__i_length)] [], body := bodyOf Tryz.f11, res := [.tmp 6, .tmp 7], ins := [.ro kSint, .ro kint, .ro kint], out := [(kSint, false), (kbool, true)], T := List Int × Bool, fin := fun r => (r.1.1, r.1.2.1), inj := fun t => ((t.1, t.2, ()), ((), (), (), ())), pts := [], fuel := 400, dr := noDr }
noncomputable def i_RollsOfLeast (rolls0 : List Int) (steps1 : Int) (need2 : Int) : Option (List Int × Bool) :=
  Option.bind (i_least__i_length rolls0 steps1 need2) fun r => some (Prod.fst (Prod.fst r), Prod.snd r)
theorem i_RollsOfLeast_e (rolls0 : List Int) (steps1 : Int) (need2 : Int) : c_i_RollsOfLeast.start c_i_RollsOfLeast.L (rolls0, steps1, need2, ()) = i_RollsOfLeast rolls0 steps1 need2 := by kernel_rfl
noncomputable def F_i_RollsOfLeast : Ins c_i_RollsOfLeast.ins → Option (List Int × Bool) := fun x => i_RollsOfLeast x.1 x.2.1 x.2.2.1
noncomputable def S_i_RollsOfLeast : FSpec := mkF c_i_RollsOfLeast.env.pre c_i_RollsOfLeast.ins c_i_RollsOfLeast.out c_i_RollsOfLeast.inj F_i_RollsOfLeast
theorem h_i_RollsOfLeast : Cert Tryz.prog 11 S_i_RollsOfLeast := FnCx.certF (c := c_i_RollsOfLeast) F_i_RollsOfLeast (tyOk _ _ _) (spOk ⟨h_i_least__i_length, fun _ _ h => h, trivial⟩) (fun _ _ _ _ _ hs => noDr_ok) Tryz.func11 rfl rfl Tryz.ntmps11 (by kernel_rfl) rfl rfl (fun _ => rfl) trivial (fun x => .inl ⟨c_i_RollsOfLeast.start () x, fun _ => rfl⟩) (fun x t hb ht => by
  obtain ⟨rolls0, steps1, need2, _⟩ := x
  exact (i_RollsOfLeast_e rolls0 steps1 need2).trans ht)
/-! spec.RollsOfLeast -/
noncomputable def c_s_RollsOfLeast : FnCx := { env := env 23 [(45, S_s_cpAll), (46, S_s_cpBest)] [], body := bodyOf Tryz.f12, res := [.tmp 6, .tmp 7], ins := [.ro kSint, .ro kint, .ro kint], out := [(kSint, false), (kbool, true)], T := List Int × Bool, fin := fun r => (r.1.1, r.1.2.1), inj := fun t => ((t.1, t.2, ()), ((), (), (), ())), pts := [], fuel := 400, dr := noDr }
noncomputable def s_RollsOfLeast (rolls0 : List Int) (steps1 : Int) (need2 : Int) : Option (List Int × Bool) :=
  Option.bind (s_cpAll rolls0 steps1 need2) fun r =>
    bif !r then some ([], false) else Option.bind (s_cpBest rolls0 steps1 need2 true) fun r => some (Prod.fst r, true)
theorem s_RollsOfLeast_e (rolls0 : List Int) (steps1 : Int) (need2 : Int) : c_s_RollsOfLeast.start c_s_RollsOfLeast.L (rolls0, steps1, need2, ()) = s_RollsOfLeast rolls0 steps1 need2 := by kernel_rfl
noncomputable def F_s_RollsOfLeast : Ins c_s_RollsOfLeast.ins → Option (List Int × Bool) := fun x => s_RollsOfLeast x.1 x.2.1 x.2.2.1
noncomputable def S_s_RollsOfLeast : FSpec := mkF c_s_RollsOfLeast.env.pre c_s_RollsOfLeast.ins c_s_RollsOfLeast.out c_s_RollsOfLeast.inj F_s_RollsOfLeast
theorem h_s_RollsOfLeast : Cert Tryz.prog 12 S_s_RollsOfLeast := FnCx.certF (c := c_s_RollsOfLeast) F_s_RollsOfLeast (tyOk _ _ _) (spOk ⟨h_s_cpAll, fun _ _ h => h, ⟨h_s_cpBest, fun _ _ h => h, trivial⟩⟩) (fun _ _ _ _ _ hs => noDr_ok) Tryz.func12 rfl rfl Tryz.ntmps12 (by kernel_rfl) rfl rfl (fun _ => rfl) trivial (fun x => .inl ⟨c_s_RollsOfLeast.start () x, fun _ => rfl⟩) (fun x t hb ht => by
  obtain ⟨rolls0, steps1, need2, _⟩ := x
  exact (s_RollsOfLeast_e rolls0 steps1 need2).trans ht)
end Go.Proofs.YtddiigejhjfhdaaGreatDoor.V
