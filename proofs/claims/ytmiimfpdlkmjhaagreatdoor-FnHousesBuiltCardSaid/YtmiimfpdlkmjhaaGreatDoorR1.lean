/- Functions of the program, as plain functions. No condition. -/
import Derived.Test.YtmiimfpdlkmjhaaGreatDoorTyR
set_option linter.unusedVariables false
set_option linter.unusedSimpArgs false
set_option maxRecDepth 100000
namespace Go.Proofs.YtmiimfpdlkmjhaaGreatDoor.V
open Go Go.Ev Go.Proofs
/-! impl.within -/
noncomputable def c_i_within : FnCx := { env := env 15 [] [], body := bodyOf Tryz.f35, res := [.tmp 6], ins := [.ro kint, .ro kint, .ro kint], out := [(kbool, true)], T := Bool, fin := fun r => r.1.1, inj := fun t => ((t, ()), ((), (), (), ())), pts := [], fuel := 400, dr := noDr }
noncomputable def i_within (n0 : Int) (low1 : Int) (high2 : Int) : Bool :=
  bif decide (low1 ≤ n0) then decide (n0 ≤ high2) else false
theorem i_within_e (n0 : Int) (low1 : Int) (high2 : Int) : c_i_within.start c_i_within.L (n0, low1, high2, ()) = some (i_within n0 low1 high2) := by
  refine Eq.trans (b := (bif decide (low1 ≤ n0) then some (decide (n0 ≤ high2)) else some false : Option Bool)) (by kernel_rfl) ?_
  unfold i_within
  repeat (first | rfl | apply condS)
noncomputable def F_i_within : Ins c_i_within.ins → Bool := fun x => i_within x.1 x.2.1 x.2.2.1
noncomputable def S_i_within : FSpec := mkT c_i_within.env.pre c_i_within.ins c_i_within.out c_i_within.inj F_i_within
theorem h_i_within : Cert Tryz.prog 35 S_i_within := FnCx.certT (c := c_i_within) F_i_within (tyOk _ _ _) (spOk trivial) (fun _ _ _ _ _ hs => noDr_ok) Tryz.func35 rfl rfl Tryz.ntmps35 (by kernel_rfl) rfl rfl (fun _ => rfl) trivial (fun x => .inl ⟨c_i_within.start () x, fun _ => rfl⟩) (fun x hb => by
  obtain ⟨n0, low1, high2, _⟩ := x
  exact i_within_e n0 low1 high2)
/-! impl.IsHouse$1 -/
noncomputable def c_i_IsHouse_c1 : FnCx := { env := env 6 [(35, S_i_within)] [], body := bodyOf Tryz.f48, res := [.tmp 2], ins := [.ro kint], out := [(kbool, true)], T := Bool, fin := fun r => r.1.1, inj := fun t => ((t, ()), ((), ())), pts := [], fuel := 400, dr := noDr }
noncomputable def i_IsHouse_c1 (n0 : Int) : Bool :=
  !i_within n0 1 40
theorem i_IsHouse_c1_e (n0 : Int) : c_i_IsHouse_c1.start c_i_IsHouse_c1.L (n0, ()) = some (i_IsHouse_c1 n0) := by kernel_rfl
noncomputable def F_i_IsHouse_c1 : Ins c_i_IsHouse_c1.ins → Bool := fun x => i_IsHouse_c1 x.1
noncomputable def S_i_IsHouse_c1 : FSpec := mkT c_i_IsHouse_c1.env.pre c_i_IsHouse_c1.ins c_i_IsHouse_c1.out c_i_IsHouse_c1.inj F_i_IsHouse_c1
theorem h_i_IsHouse_c1 : Cert Tryz.prog 48 S_i_IsHouse_c1 := FnCx.certT (c := c_i_IsHouse_c1) F_i_IsHouse_c1 (tyOk _ _ _) (spOk ⟨h_i_within, fun _ _ h => h, trivial⟩) (fun _ _ _ _ _ hs => noDr_ok) Tryz.func48 rfl rfl Tryz.ntmps48 (by kernel_rfl) rfl rfl (fun _ => rfl) trivial (fun x => .inl ⟨c_i_IsHouse_c1.start () x, fun _ => rfl⟩) (fun x hb => by
  obtain ⟨n0, _⟩ := x
  exact i_IsHouse_c1_e n0)
/-! slices.IndexFunc[[]int,int] -/
noncomputable def c_slices_IndexFunc_int__i_IsHouse_c1 : FnCx := { env := env 19 [(48, S_i_IsHouse_c1)] [], body := bodyOf Tryz.f64, res := [.tmp 4], ins := [.ro kSint, .fn 48 []], out := [(kint, true)], T := Int, fin := fun r => r.1.1, inj := fun t => ((t, ()), ((), (), ())), pts := [([.inLoop [1, 0, 1, 0, 0], .inBlock 0, .code [1, 1]], Shape.mk [Bs.row kint 3 false] [(0, Ss.one (Cs.sl 0)), (1, Ss.fn 48 []), (7, Ss.one (Cs.sc kint)), (8, Ss.one (Cs.sc kint))] [Ss.one (Cs.any), Ss.fn 48 []])], fuel := 400, dr := noDr }
noncomputable def slices_IndexFunc_int__i_IsHouse_c1_t1 (g1 : List (Int) → Int → Int → Option (Int)) (r0 : List (Int)) (s7 : Int) (s8 : Int) : Option Int :=
  bif decide (s8 < s7) then
    bif decide (0 ≤ s8) then
      bif decide (s8 < (↑(List.length r0) : Int)) then
        bif i_IsHouse_c1 (rdk kint r0 s8) then some s8 else g1 r0 s7 (IntKind.wrap IntKind.i64 (s8 + 1))
      else none
    else none
  else some (-1)
noncomputable def slices_IndexFunc_int__i_IsHouse_c1_t0 (g1 : List (Int) → Int → Int → Option (Int)) (s0 : List Int) : Option Int :=
  g1 s0 (↑(List.length s0) : Int) 0
theorem slices_IndexFunc_int__i_IsHouse_c1_ts : Tails c_slices_IndexFunc_int__i_IsHouse_c1.pts c_slices_IndexFunc_int__i_IsHouse_c1.round :=
  ⟨fun s => by
    obtain ⟨⟨r0, _⟩, ⟨_, _, s7, s8, _⟩, ⟨_, _, _⟩⟩ := s
    refine Tail.eq (Y := fun g => slices_IndexFunc_int__i_IsHouse_c1_t1 (fun r0 s7 s8 => g.1 ((r0, ()), ((), (), s7, s8, ()), ((), (), ()))) r0 s7 s8) ?_ (fun g => by kernel_rfl)
    simp only [slices_IndexFunc_int__i_IsHouse_c1_t1]; repeat (first | exact Tail.const _ | exact Tail.here _ | exact Tail.there (Tail.here _) | exact Tail.there (Tail.there (Tail.here _)) | exact Tail.there (Tail.there (Tail.there (Tail.here _))) | exact Tail.there (Tail.there (Tail.there (Tail.there (Tail.here _)))) | exact Tail.there (Tail.there (Tail.there (Tail.there (Tail.there (Tail.here _))))) | apply Tail.cond | (apply Tail.bind; intro _)), trivial⟩
theorem slices_IndexFunc_int__i_IsHouse_c1_hs : ∀ x, Tail c_slices_IndexFunc_int__i_IsHouse_c1.pts (fun g => c_slices_IndexFunc_int__i_IsHouse_c1.start g x) := fun x => by
    obtain ⟨s0, _, _⟩ := x
    refine Tail.eq (Y := fun g => slices_IndexFunc_int__i_IsHouse_c1_t0 (fun r0 s7 s8 => g.1 ((r0, ()), ((), (), s7, s8, ()), ((), (), ()))) s0) ?_ (fun g => by kernel_rfl)
    simp only [slices_IndexFunc_int__i_IsHouse_c1_t0]; repeat (first | exact Tail.const _ | exact Tail.here _ | exact Tail.there (Tail.here _) | exact Tail.there (Tail.there (Tail.here _)) | exact Tail.there (Tail.there (Tail.there (Tail.here _))) | exact Tail.there (Tail.there (Tail.there (Tail.there (Tail.here _)))) | exact Tail.there (Tail.there (Tail.there (Tail.there (Tail.there (Tail.here _))))) | apply Tail.cond | (apply Tail.bind; intro _))
noncomputable def slices_IndexFunc_int__i_IsHouse_c1_L1 (r0 : List (Int)) (s7 : Int) (s8 : Int) : Option Int := c_slices_IndexFunc_int__i_IsHouse_c1.L.1 ((r0, ()), ((), (), s7, s8, ()), ((), (), ()))
theorem slices_IndexFunc_int__i_IsHouse_c1_u1 (r0 : List (Int)) (s7 : Int) (s8 : Int) : slices_IndexFunc_int__i_IsHouse_c1_L1 r0 s7 s8 = slices_IndexFunc_int__i_IsHouse_c1_t1 slices_IndexFunc_int__i_IsHouse_c1_L1 r0 s7 s8 :=
  (congrArg (fun g => g.1 ((r0, ()), ((), (), s7, s8, ()), ((), (), ()))) (FnCx.L_eq slices_IndexFunc_int__i_IsHouse_c1_ts)).trans (by kernel_rfl)
noncomputable def slices_IndexFunc_int__i_IsHouse_c1 (s0 : List Int) : Option Int := slices_IndexFunc_int__i_IsHouse_c1_t0 slices_IndexFunc_int__i_IsHouse_c1_L1 s0
theorem slices_IndexFunc_int__i_IsHouse_c1_e (s0 : List Int) : c_slices_IndexFunc_int__i_IsHouse_c1.start c_slices_IndexFunc_int__i_IsHouse_c1.L (s0, (), ()) = slices_IndexFunc_int__i_IsHouse_c1 s0 := by kernel_rfl
-- NICE tot
noncomputable def slices_IndexFunc_int__i_IsHouse_c1_n (l : List Int) : Int := idxF (fun x => i_IsHouse_c1 x) l 0
theorem slices_IndexFunc_int__i_IsHouse_c1_ok (l : List Int) (hb : BdI c_slices_IndexFunc_int__i_IsHouse_c1.ins (l, (), ())) : slices_IndexFunc_int__i_IsHouse_c1 l = some (slices_IndexFunc_int__i_IsHouse_c1_n l) :=
  have hm : l.length ≤ maxLen := hb.1.1
  loop_idx (L := fun i => slices_IndexFunc_int__i_IsHouse_c1_L1 l l.length (i : Int)) (l := l) (p := fun x => i_IsHouse_c1 x)
    (fun i h => by simp only [slices_IndexFunc_int__i_IsHouse_c1_u1 l l.length i, slices_IndexFunc_int__i_IsHouse_c1_t1, rdk_get (k := kint) h, wrapS h hm]; simp [h]) (by simp [slices_IndexFunc_int__i_IsHouse_c1_u1 l l.length l.length, slices_IndexFunc_int__i_IsHouse_c1_t1])
noncomputable def F_slices_IndexFunc_int__i_IsHouse_c1 : Ins c_slices_IndexFunc_int__i_IsHouse_c1.ins → Int := fun x => slices_IndexFunc_int__i_IsHouse_c1_n x.1
noncomputable def S_slices_IndexFunc_int__i_IsHouse_c1 : FSpec := mkT c_slices_IndexFunc_int__i_IsHouse_c1.env.pre c_slices_IndexFunc_int__i_IsHouse_c1.ins c_slices_IndexFunc_int__i_IsHouse_c1.out c_slices_IndexFunc_int__i_IsHouse_c1.inj F_slices_IndexFunc_int__i_IsHouse_c1
theorem h_slices_IndexFunc_int__i_IsHouse_c1 : Cert Tryz.prog 64 S_slices_IndexFunc_int__i_IsHouse_c1 := FnCx.certT (c := c_slices_IndexFunc_int__i_IsHouse_c1) F_slices_IndexFunc_int__i_IsHouse_c1 (tyOk _ _ _) (spOk ⟨h_i_IsHouse_c1, fun _ _ h => h, trivial⟩) (fun _ _ _ _ _ hs => noDr_ok) Tryz.func64 rfl rfl Tryz.ntmps64 (by kernel_rfl) rfl rfl (fun _ => rfl) slices_IndexFunc_int__i_IsHouse_c1_ts slices_IndexFunc_int__i_IsHouse_c1_hs (fun x hb => by
  obtain ⟨s0, _, _⟩ := x
  exact (slices_IndexFunc_int__i_IsHouse_c1_e s0).trans (slices_IndexFunc_int__i_IsHouse_c1_ok s0 hb))
/-! slices.ContainsFunc[[]int,int] -/
noncomputable def c_slices_ContainsFunc_int__i_IsHouse_c1 : FnCx := { env := env 9 [(64, S_slices_IndexFunc_int__i_IsHouse_c1)] [], body := bodyOf Tryz.f47, res := [.tmp 4], ins := [.ro kSint, .fn 48 []], out := [(kbool, true)], T := Bool, fin := fun r => r.1.1, inj := fun t => ((t, ()), ((), (), ())), pts := [], fuel := 400, dr := noDr }
noncomputable def slices_ContainsFunc_int__i_IsHouse_c1 (s0 : List Int) : Bool :=
  decide (slices_IndexFunc_int__i_IsHouse_c1_n s0 ≥ 0)
theorem slices_ContainsFunc_int__i_IsHouse_c1_e (s0 : List Int) : c_slices_ContainsFunc_int__i_IsHouse_c1.start c_slices_ContainsFunc_int__i_IsHouse_c1.L (s0, (), ()) = some (slices_ContainsFunc_int__i_IsHouse_c1 s0) := by kernel_rfl
noncomputable def F_slices_ContainsFunc_int__i_IsHouse_c1 : Ins c_slices_ContainsFunc_int__i_IsHouse_c1.ins → Bool := fun x => slices_ContainsFunc_int__i_IsHouse_c1 x.1
noncomputable def S_slices_ContainsFunc_int__i_IsHouse_c1 : FSpec := mkT c_slices_ContainsFunc_int__i_IsHouse_c1.env.pre c_slices_ContainsFunc_int__i_IsHouse_c1.ins c_slices_ContainsFunc_int__i_IsHouse_c1.out c_slices_ContainsFunc_int__i_IsHouse_c1.inj F_slices_ContainsFunc_int__i_IsHouse_c1
theorem h_slices_ContainsFunc_int__i_IsHouse_c1 : Cert Tryz.prog 47 S_slices_ContainsFunc_int__i_IsHouse_c1 := FnCx.certT (c := c_slices_ContainsFunc_int__i_IsHouse_c1) F_slices_ContainsFunc_int__i_IsHouse_c1 (tyOk _ _ _) (spOk ⟨h_slices_IndexFunc_int__i_IsHouse_c1, fun _ _ h => h, trivial⟩) (fun _ _ _ _ _ hs => noDr_ok) Tryz.func47 rfl rfl Tryz.ntmps47 (by kernel_rfl) rfl rfl (fun _ => rfl) trivial (fun x => .inl ⟨c_slices_ContainsFunc_int__i_IsHouse_c1.start () x, fun _ => rfl⟩) (fun x hb => by
  obtain ⟨s0, _, _⟩ := x
  exact slices_ContainsFunc_int__i_IsHouse_c1_e s0)
/-! impl.IsHouse$2 -/
noncomputable def c_i_IsHouse_c2 : FnCx := { env := env 6 [(35, S_i_within)] [], body := bodyOf Tryz.f49, res := [.tmp 2], ins := [.ro kint], out := [(kbool, true)], T := Bool, fin := fun r => r.1.1, inj := fun t => ((t, ()), ((), ())), pts := [], fuel := 400, dr := noDr }
noncomputable def i_IsHouse_c2 (n0 : Int) : Bool :=
  !i_within n0 0 20
theorem i_IsHouse_c2_e (n0 : Int) : c_i_IsHouse_c2.start c_i_IsHouse_c2.L (n0, ()) = some (i_IsHouse_c2 n0) := by kernel_rfl
noncomputable def F_i_IsHouse_c2 : Ins c_i_IsHouse_c2.ins → Bool := fun x => i_IsHouse_c2 x.1
noncomputable def S_i_IsHouse_c2 : FSpec := mkT c_i_IsHouse_c2.env.pre c_i_IsHouse_c2.ins c_i_IsHouse_c2.out c_i_IsHouse_c2.inj F_i_IsHouse_c2
theorem h_i_IsHouse_c2 : Cert Tryz.prog 49 S_i_IsHouse_c2 := FnCx.certT (c := c_i_IsHouse_c2) F_i_IsHouse_c2 (tyOk _ _ _) (spOk ⟨h_i_within, fun _ _ h => h, trivial⟩) (fun _ _ _ _ _ hs => noDr_ok) Tryz.func49 rfl rfl Tryz.ntmps49 (by kernel_rfl) rfl rfl (fun _ => rfl) trivial (fun x => .inl ⟨c_i_IsHouse_c2.start () x, fun _ => rfl⟩) (fun x hb => by
  obtain ⟨n0, _⟩ := x
  exact i_IsHouse_c2_e n0)
/-! slices.IndexFunc[[]int,int] -/
noncomputable def c_slices_IndexFunc_int__i_IsHouse_c2 : FnCx := { env := env 19 [(49, S_i_IsHouse_c2)] [], body := bodyOf Tryz.f64, res := [.tmp 4], ins := [.ro kSint, .fn 49 []], out := [(kint, true)], T := Int, fin := fun r => r.1.1, inj := fun t => ((t, ()), ((), (), ())), pts := [([.inLoop [1, 0, 1, 0, 0], .inBlock 0, .code [1, 1]], Shape.mk [Bs.row kint 3 false] [(0, Ss.one (Cs.sl 0)), (1, Ss.fn 49 []), (7, Ss.one (Cs.sc kint)), (8, Ss.one (Cs.sc kint))] [Ss.one (Cs.any), Ss.fn 49 []])], fuel := 400, dr := noDr }
noncomputable def slices_IndexFunc_int__i_IsHouse_c2_t1 (g1 : List (Int) → Int → Int → Option (Int)) (r0 : List (Int)) (s7 : Int) (s8 : Int) : Option Int :=
  bif decide (s8 < s7) then
    bif decide (0 ≤ s8) then
      bif decide (s8 < (↑(List.length r0) : Int)) then
        bif i_IsHouse_c2 (rdk kint r0 s8) then some s8 else g1 r0 s7 (IntKind.wrap IntKind.i64 (s8 + 1))
      else none
    else none
  else some (-1)
noncomputable def slices_IndexFunc_int__i_IsHouse_c2_t0 (g1 : List (Int) → Int → Int → Option (Int)) (s0 : List Int) : Option Int :=
  g1 s0 (↑(List.length s0) : Int) 0
theorem slices_IndexFunc_int__i_IsHouse_c2_ts : Tails c_slices_IndexFunc_int__i_IsHouse_c2.pts c_slices_IndexFunc_int__i_IsHouse_c2.round :=
  ⟨fun s => by
    obtain ⟨⟨r0, _⟩, ⟨_, _, s7, s8, _⟩, ⟨_, _, _⟩⟩ := s
    refine Tail.eq (Y := fun g => slices_IndexFunc_int__i_IsHouse_c2_t1 (fun r0 s7 s8 => g.1 ((r0, ()), ((), (), s7, s8, ()), ((), (), ()))) r0 s7 s8) ?_ (fun g => by kernel_rfl)
    simp only [slices_IndexFunc_int__i_IsHouse_c2_t1]; repeat (first | exact Tail.const _ | exact Tail.here _ | exact Tail.there (Tail.here _) | exact Tail.there (Tail.there (Tail.here _)) | exact Tail.there (Tail.there (Tail.there (Tail.here _))) | exact Tail.there (Tail.there (Tail.there (Tail.there (Tail.here _)))) | exact Tail.there (Tail.there (Tail.there (Tail.there (Tail.there (Tail.here _))))) | apply Tail.cond | (apply Tail.bind; intro _)), trivial⟩
theorem slices_IndexFunc_int__i_IsHouse_c2_hs : ∀ x, Tail c_slices_IndexFunc_int__i_IsHouse_c2.pts (fun g => c_slices_IndexFunc_int__i_IsHouse_c2.start g x) := fun x => by
    obtain ⟨s0, _, _⟩ := x
    refine Tail.eq (Y := fun g => slices_IndexFunc_int__i_IsHouse_c2_t0 (fun r0 s7 s8 => g.1 ((r0, ()), ((), (), s7, s8, ()), ((), (), ()))) s0) ?_ (fun g => by kernel_rfl)
    simp only [slices_IndexFunc_int__i_IsHouse_c2_t0]; repeat (first | exact Tail.const _ | exact Tail.here _ | exact Tail.there (Tail.here _) | exact Tail.there (Tail.there (Tail.here _)) | exact Tail.there (Tail.there (Tail.there (Tail.here _))) | exact Tail.there (Tail.there (Tail.there (Tail.there (Tail.here _)))) | exact Tail.there (Tail.there (Tail.there (Tail.there (Tail.there (Tail.here _))))) | apply Tail.cond | (apply Tail.bind; intro _))
noncomputable def slices_IndexFunc_int__i_IsHouse_c2_L1 (r0 : List (Int)) (s7 : Int) (s8 : Int) : Option Int := c_slices_IndexFunc_int__i_IsHouse_c2.L.1 ((r0, ()), ((), (), s7, s8, ()), ((), (), ()))
theorem slices_IndexFunc_int__i_IsHouse_c2_u1 (r0 : List (Int)) (s7 : Int) (s8 : Int) : slices_IndexFunc_int__i_IsHouse_c2_L1 r0 s7 s8 = slices_IndexFunc_int__i_IsHouse_c2_t1 slices_IndexFunc_int__i_IsHouse_c2_L1 r0 s7 s8 :=
  (congrArg (fun g => g.1 ((r0, ()), ((), (), s7, s8, ()), ((), (), ()))) (FnCx.L_eq slices_IndexFunc_int__i_IsHouse_c2_ts)).trans (by kernel_rfl)
noncomputable def slices_IndexFunc_int__i_IsHouse_c2 (s0 : List Int) : Option Int := slices_IndexFunc_int__i_IsHouse_c2_t0 slices_IndexFunc_int__i_IsHouse_c2_L1 s0
theorem slices_IndexFunc_int__i_IsHouse_c2_e (s0 : List Int) : c_slices_IndexFunc_int__i_IsHouse_c2.start c_slices_IndexFunc_int__i_IsHouse_c2.L (s0, (), ()) = slices_IndexFunc_int__i_IsHouse_c2 s0 := by kernel_rfl
-- NICE tot
noncomputable def slices_IndexFunc_int__i_IsHouse_c2_n (l : List Int) : Int := idxF (fun x => i_IsHouse_c2 x) l 0
theorem slices_IndexFunc_int__i_IsHouse_c2_ok (l : List Int) (hb : BdI c_slices_IndexFunc_int__i_IsHouse_c2.ins (l, (), ())) : slices_IndexFunc_int__i_IsHouse_c2 l = some (slices_IndexFunc_int__i_IsHouse_c2_n l) :=
  have hm : l.length ≤ maxLen := hb.1.1
  loop_idx (L := fun i => slices_IndexFunc_int__i_IsHouse_c2_L1 l l.length (i : Int)) (l := l) (p := fun x => i_IsHouse_c2 x)
    (fun i h => by simp only [slices_IndexFunc_int__i_IsHouse_c2_u1 l l.length i, slices_IndexFunc_int__i_IsHouse_c2_t1, rdk_get (k := kint) h, wrapS h hm]; simp [h]) (by simp [slices_IndexFunc_int__i_IsHouse_c2_u1 l l.length l.length, slices_IndexFunc_int__i_IsHouse_c2_t1])
noncomputable def F_slices_IndexFunc_int__i_IsHouse_c2 : Ins c_slices_IndexFunc_int__i_IsHouse_c2.ins → Int := fun x => slices_IndexFunc_int__i_IsHouse_c2_n x.1
noncomputable def S_slices_IndexFunc_int__i_IsHouse_c2 : FSpec := mkT c_slices_IndexFunc_int__i_IsHouse_c2.env.pre c_slices_IndexFunc_int__i_IsHouse_c2.ins c_slices_IndexFunc_int__i_IsHouse_c2.out c_slices_IndexFunc_int__i_IsHouse_c2.inj F_slices_IndexFunc_int__i_IsHouse_c2
theorem h_slices_IndexFunc_int__i_IsHouse_c2 : Cert Tryz.prog 64 S_slices_IndexFunc_int__i_IsHouse_c2 := FnCx.certT (c := c_slices_IndexFunc_int__i_IsHouse_c2) F_slices_IndexFunc_int__i_IsHouse_c2 (tyOk _ _ _) (spOk ⟨h_i_IsHouse_c2, fun _ _ h => h, trivial⟩) (fun _ _ _ _ _ hs => noDr_ok) Tryz.func64 rfl rfl Tryz.ntmps64 (by kernel_rfl) rfl rfl (fun _ => rfl) slices_IndexFunc_int__i_IsHouse_c2_ts slices_IndexFunc_int__i_IsHouse_c2_hs (fun x hb => by
  obtain ⟨s0, _, _⟩ := x
  exact (slices_IndexFunc_int__i_IsHouse_c2_e s0).trans (slices_IndexFunc_int__i_IsHouse_c2_ok s0 hb))
/-! slices.ContainsFunc[[]int,int] -/
noncomputable def c_slices_ContainsFunc_int__i_IsHouse_c2 : FnCx := { env := env 9 [(64, S_slices_IndexFunc_int__i_IsHouse_c2)] [], body := bodyOf Tryz.f47, res := [.tmp 4], ins := [.ro kSint, .fn 49 []], out := [(kbool, true)], T := Bool, fin := fun r => r.1.1, inj := fun t => ((t, ()), ((), (), ())), pts := [], fuel := 400, dr := noDr }
noncomputable def slices_ContainsFunc_int__i_IsHouse_c2 (s0 : List Int) : Bool :=
  decide (slices_IndexFunc_int__i_IsHouse_c2_n s0 ≥ 0)
theorem slices_ContainsFunc_int__i_IsHouse_c2_e (s0 : List Int) : c_slices_ContainsFunc_int__i_IsHouse_c2.start c_slices_ContainsFunc_int__i_IsHouse_c2.L (s0, (), ()) = some (slices_ContainsFunc_int__i_IsHouse_c2 s0) := by kernel_rfl
noncomputable def F_slices_ContainsFunc_int__i_IsHouse_c2 : Ins c_slices_ContainsFunc_int__i_IsHouse_c2.ins → Bool := fun x => slices_ContainsFunc_int__i_IsHouse_c2 x.1
noncomputable def S_slices_ContainsFunc_int__i_IsHouse_c2 : FSpec := mkT c_slices_ContainsFunc_int__i_IsHouse_c2.env.pre c_slices_ContainsFunc_int__i_IsHouse_c2.ins c_slices_ContainsFunc_int__i_IsHouse_c2.out c_slices_ContainsFunc_int__i_IsHouse_c2.inj F_slices_ContainsFunc_int__i_IsHouse_c2
theorem h_slices_ContainsFunc_int__i_IsHouse_c2 : Cert Tryz.prog 47 S_slices_ContainsFunc_int__i_IsHouse_c2 := FnCx.certT (c := c_slices_ContainsFunc_int__i_IsHouse_c2) F_slices_ContainsFunc_int__i_IsHouse_c2 (tyOk _ _ _) (spOk ⟨h_slices_IndexFunc_int__i_IsHouse_c2, fun _ _ h => h, trivial⟩) (fun _ _ _ _ _ hs => noDr_ok) Tryz.func47 rfl rfl Tryz.ntmps47 (by kernel_rfl) rfl rfl (fun _ => rfl) trivial (fun x => .inl ⟨c_slices_ContainsFunc_int__i_IsHouse_c2.start () x, fun _ => rfl⟩) (fun x hb => by
  obtain ⟨s0, _, _⟩ := x
  exact slices_ContainsFunc_int__i_IsHouse_c2_e s0)
/-! impl.IsHouse -/
noncomputable def c_i_IsHouse : FnCx := { env := env 29 [(35, S_i_within), (47, S_slices_ContainsFunc_int__i_IsHouse_c1), (47, S_slices_ContainsFunc_int__i_IsHouse_c2)] [], body := bodyOf Tryz.f20, res := [.tmp 2], ins := [.ro kHouse], out := [(kbool, true)], T := Bool, fin := fun r => r.1.1, inj := fun t => ((t, ()), ((), ())), pts := [], fuel := 400, dr := noDr }
noncomputable def i_IsHouse (h0_Stairs : List Int) (h0_Doors : List Int) : Bool :=
  bif i_within (↑(List.length h0_Doors) : Int) 2 12 then
    bif (↑(List.length h0_Stairs) : Int) == IntKind.wrap IntKind.i64 ((↑(List.length h0_Doors) : Int) - 1) then
      bif !slices_ContainsFunc_int__i_IsHouse_c1 h0_Stairs then !slices_ContainsFunc_int__i_IsHouse_c2 h0_Doors else false
    else false
  else false
theorem i_IsHouse_e (h0_Stairs : List Int) (h0_Doors : List Int) : c_i_IsHouse.start c_i_IsHouse.L ((h0_Stairs, h0_Doors), ()) = some (i_IsHouse h0_Stairs h0_Doors) := by
  refine Eq.trans (b := (bif i_within (↑(List.length h0_Doors) : Int) 2 12 then bif (↑(List.length h0_Stairs) : Int) == IntKind.wrap IntKind.i64 ((↑(List.length h0_Doors) : Int) - 1) then bif !slices_ContainsFunc_int__i_IsHouse_c1 h0_Stairs then some !slices_ContainsFunc_int__i_IsHouse_c2 h0_Doors else some false else some false else some false : Option Bool)) (by kernel_rfl) ?_
  unfold i_IsHouse
  repeat (first | rfl | apply condS)
noncomputable def F_i_IsHouse : Ins c_i_IsHouse.ins → Bool := fun x => i_IsHouse x.1.1 x.1.2
noncomputable def S_i_IsHouse : FSpec := mkT c_i_IsHouse.env.pre c_i_IsHouse.ins c_i_IsHouse.out c_i_IsHouse.inj F_i_IsHouse
theorem h_i_IsHouse : Cert Tryz.prog 20 S_i_IsHouse := FnCx.certT (c := c_i_IsHouse) F_i_IsHouse (tyOk _ _ _) (spOk ⟨h_i_within, fun _ _ h => h, ⟨h_slices_ContainsFunc_int__i_IsHouse_c1, fun _ _ h => h, ⟨h_slices_ContainsFunc_int__i_IsHouse_c2, fun _ _ h => h, trivial⟩⟩⟩) (fun _ _ _ _ _ hs => noDr_ok) Tryz.func20 rfl rfl Tryz.ntmps20 (by kernel_rfl) rfl rfl (fun _ => rfl) trivial (fun x => .inl ⟨c_i_IsHouse.start () x, fun _ => rfl⟩) (fun x hb => by
  obtain ⟨⟨h0_Stairs, h0_Doors⟩, _⟩ := x
  exact i_IsHouse_e h0_Stairs h0_Doors)
/-! spec.l1In -/
noncomputable def c_s_l1In : FnCx := { env := env 15 [] [], body := bodyOf Tryz.f55, res := [.tmp 6], ins := [.ro kint, .ro kint, .ro kint], out := [(kbool, true)], T := Bool, fin := fun r => r.1.1, inj := fun t => ((t, ()), ((), (), (), ())), pts := [], fuel := 400, dr := noDr }
noncomputable def s_l1In (n0 : Int) (lo1 : Int) (hi2 : Int) : Bool :=
  bif decide (n0 ≥ lo1) then decide (n0 ≤ hi2) else false
theorem s_l1In_e (n0 : Int) (lo1 : Int) (hi2 : Int) : c_s_l1In.start c_s_l1In.L (n0, lo1, hi2, ()) = some (s_l1In n0 lo1 hi2) := by
  refine Eq.trans (b := (bif decide (n0 ≥ lo1) then some (decide (n0 ≤ hi2)) else some false : Option Bool)) (by kernel_rfl) ?_
  unfold s_l1In
  repeat (first | rfl | apply condS)
noncomputable def F_s_l1In : Ins c_s_l1In.ins → Bool := fun x => s_l1In x.1 x.2.1 x.2.2.1
noncomputable def S_s_l1In : FSpec := mkT c_s_l1In.env.pre c_s_l1In.ins c_s_l1In.out c_s_l1In.inj F_s_l1In
theorem h_s_l1In : Cert Tryz.prog 55 S_s_l1In := FnCx.certT (c := c_s_l1In) F_s_l1In (tyOk _ _ _) (spOk trivial) (fun _ _ _ _ _ hs => noDr_ok) Tryz.func55 rfl rfl Tryz.ntmps55 (by kernel_rfl) rfl rfl (fun _ => rfl) trivial (fun x => .inl ⟨c_s_l1In.start () x, fun _ => rfl⟩) (fun x hb => by
  obtain ⟨n0, lo1, hi2, _⟩ := x
  exact s_l1In_e n0 lo1 hi2)
/-! spec.l1All -/
noncomputable def c_s_l1All : FnCx := { env := env 21 [(55, S_s_l1In)] [], body := bodyOf Tryz.f61, res := [.tmp 6], ins := [.ro kSint, .ro kint, .ro kint], out := [(kbool, true)], T := Bool, fin := fun r => r.1.1, inj := fun t => ((t, ()), ((), (), (), ())), pts := [([.inLoop [1, 0, 1, 0, 0], .inBlock 0, .code [1, 1]], Shape.mk [Bs.row kint 3 false] [(1, Ss.one (Cs.sc kint)), (2, Ss.one (Cs.sc kint)), (9, Ss.one (Cs.sl 0)), (10, Ss.one (Cs.sc kint)), (11, Ss.one (Cs.sc kint))] [Ss.one (Cs.any), Ss.one (Cs.any), Ss.one (Cs.any)])], fuel := 400, dr := noDr }
noncomputable def s_l1All_t1 (g1 : List (Int) → Int → Int → Int → Int → Option (Bool)) (r0 : List (Int)) (lo1 : Int) (hi2 : Int) (s10 : Int) (s11 : Int) : Option Bool :=
  bif decide (s11 < s10) then
    bif decide (0 ≤ s11) then
      bif decide (s11 < (↑(List.length r0) : Int)) then
        bif !s_l1In (rdk kint r0 s11) lo1 hi2 then some false else g1 r0 lo1 hi2 s10 (IntKind.wrap IntKind.i64 (s11 + 1))
      else none
    else none
  else some true
noncomputable def s_l1All_t0 (g1 : List (Int) → Int → Int → Int → Int → Option (Bool)) (l0 : List Int) (lo1 : Int) (hi2 : Int) : Option Bool :=
  g1 l0 lo1 hi2 (↑(List.length l0) : Int) 0
theorem s_l1All_ts : Tails c_s_l1All.pts c_s_l1All.round :=
  ⟨fun s => by
    obtain ⟨⟨r0, _⟩, ⟨lo1, hi2, _, s10, s11, _⟩, ⟨_, _, _, _⟩⟩ := s
    refine Tail.eq (Y := fun g => s_l1All_t1 (fun r0 lo1 hi2 s10 s11 => g.1 ((r0, ()), (lo1, hi2, (), s10, s11, ()), ((), (), (), ()))) r0 lo1 hi2 s10 s11) ?_ (fun g => by kernel_rfl)
    simp only [s_l1All_t1]; repeat (first | exact Tail.const _ | exact Tail.here _ | exact Tail.there (Tail.here _) | exact Tail.there (Tail.there (Tail.here _)) | exact Tail.there (Tail.there (Tail.there (Tail.here _))) | exact Tail.there (Tail.there (Tail.there (Tail.there (Tail.here _)))) | exact Tail.there (Tail.there (Tail.there (Tail.there (Tail.there (Tail.here _))))) | apply Tail.cond | (apply Tail.bind; intro _)), trivial⟩
theorem s_l1All_hs : ∀ x, Tail c_s_l1All.pts (fun g => c_s_l1All.start g x) := fun x => by
    obtain ⟨l0, lo1, hi2, _⟩ := x
    refine Tail.eq (Y := fun g => s_l1All_t0 (fun r0 lo1 hi2 s10 s11 => g.1 ((r0, ()), (lo1, hi2, (), s10, s11, ()), ((), (), (), ()))) l0 lo1 hi2) ?_ (fun g => by kernel_rfl)
    simp only [s_l1All_t0]; repeat (first | exact Tail.const _ | exact Tail.here _ | exact Tail.there (Tail.here _) | exact Tail.there (Tail.there (Tail.here _)) | exact Tail.there (Tail.there (Tail.there (Tail.here _))) | exact Tail.there (Tail.there (Tail.there (Tail.there (Tail.here _)))) | exact Tail.there (Tail.there (Tail.there (Tail.there (Tail.there (Tail.here _))))) | apply Tail.cond | (apply Tail.bind; intro _))
noncomputable def s_l1All_L1 (r0 : List (Int)) (lo1 : Int) (hi2 : Int) (s10 : Int) (s11 : Int) : Option Bool := c_s_l1All.L.1 ((r0, ()), (lo1, hi2, (), s10, s11, ()), ((), (), (), ()))
theorem s_l1All_u1 (r0 : List (Int)) (lo1 : Int) (hi2 : Int) (s10 : Int) (s11 : Int) : s_l1All_L1 r0 lo1 hi2 s10 s11 = s_l1All_t1 s_l1All_L1 r0 lo1 hi2 s10 s11 :=
  (congrArg (fun g => g.1 ((r0, ()), (lo1, hi2, (), s10, s11, ()), ((), (), (), ()))) (FnCx.L_eq s_l1All_ts)).trans (by kernel_rfl)
noncomputable def s_l1All (l0 : List Int) (lo1 : Int) (hi2 : Int) : Option Bool := s_l1All_t0 s_l1All_L1 l0 lo1 hi2
theorem s_l1All_e (l0 : List Int) (lo1 : Int) (hi2 : Int) : c_s_l1All.start c_s_l1All.L (l0, lo1, hi2, ()) = s_l1All l0 lo1 hi2 := by kernel_rfl
-- NICE tot
noncomputable def s_l1All_n (l : List Int) (lo hi : Int) : Bool := l.all (inB lo hi)
theorem s_l1In_inB2 (x lo hi : Int) : s_l1In x lo hi = inB lo hi x := by
  unfold s_l1In inB
  cases h1 : decide (lo ≤ x) <;> simp_all
theorem s_l1All_ok (l : List Int) (lo hi : Int) (hb : BdI c_s_l1All.ins (l, lo, hi, ())) : s_l1All l lo hi = some (s_l1All_n l lo hi) := by
  have hm : l.length ≤ maxLen := hb.1.1
  have e := loop_any (L := fun i => s_l1All_L1 l lo hi l.length (i : Int)) (l := l) (p := fun x => !inB lo hi x) (a := false) (b := true)
    (fun i h => by simp only [s_l1All_u1 l lo hi l.length i, s_l1All_t1, rdk_get (k := kint) h, wrapS h hm, s_l1In_inB2]; simp [h]) (by simp [s_l1All_u1 l lo hi l.length l.length, s_l1All_t1])
  refine Eq.trans e (congrArg some ?_)
  unfold s_l1All_n
  rw [any_not]
noncomputable def F_s_l1All : Ins c_s_l1All.ins → Bool := fun x => s_l1All_n x.1 x.2.1 x.2.2.1
noncomputable def S_s_l1All : FSpec := mkT c_s_l1All.env.pre c_s_l1All.ins c_s_l1All.out c_s_l1All.inj F_s_l1All
theorem h_s_l1All : Cert Tryz.prog 61 S_s_l1All := FnCx.certT (c := c_s_l1All) F_s_l1All (tyOk _ _ _) (spOk ⟨h_s_l1In, fun _ _ h => h, trivial⟩) (fun _ _ _ _ _ hs => noDr_ok) Tryz.func61 rfl rfl Tryz.ntmps61 (by kernel_rfl) rfl rfl (fun _ => rfl) s_l1All_ts s_l1All_hs (fun x hb => by
  obtain ⟨l0, lo1, hi2, _⟩ := x
  exact (s_l1All_e l0 lo1 hi2).trans (s_l1All_ok l0 lo1 hi2 hb))
/-! spec.ldGood -/
noncomputable def c_s_ldGood : FnCx := { env := env 27 [(55, S_s_l1In), (61, S_s_l1All)] [], body := bodyOf Tryz.f40, res := [.tmp 2], ins := [.ro kHouse], out := [(kbool, true)], T := Bool, fin := fun r => r.1.1, inj := fun t => ((t, ()), ((), ())), pts := [], fuel := 400, dr := noDr }
noncomputable def s_ldGood (h0_Stairs : List Int) (h0_Doors : List Int) : Bool :=
  bif s_l1In (↑(List.length h0_Doors) : Int) 2 12 then
    bif (↑(List.length h0_Stairs) : Int) == IntKind.wrap IntKind.i64 ((↑(List.length h0_Doors) : Int) - 1) then
      bif s_l1All_n h0_Stairs 1 40 then s_l1All_n h0_Doors 0 20 else false
    else false
  else false
theorem s_ldGood_e (h0_Stairs : List Int) (h0_Doors : List Int) : c_s_ldGood.start c_s_ldGood.L ((h0_Stairs, h0_Doors), ()) = some (s_ldGood h0_Stairs h0_Doors) := by
  refine Eq.trans (b := (bif s_l1In (↑(List.length h0_Doors) : Int) 2 12 then bif (↑(List.length h0_Stairs) : Int) == IntKind.wrap IntKind.i64 ((↑(List.length h0_Doors) : Int) - 1) then bif s_l1All_n h0_Stairs 1 40 then some (s_l1All_n h0_Doors 0 20) else some false else some false else some false : Option Bool)) (by kernel_rfl) ?_
  unfold s_ldGood
  repeat (first | rfl | apply condS)
noncomputable def F_s_ldGood : Ins c_s_ldGood.ins → Bool := fun x => s_ldGood x.1.1 x.1.2
noncomputable def S_s_ldGood : FSpec := mkT c_s_ldGood.env.pre c_s_ldGood.ins c_s_ldGood.out c_s_ldGood.inj F_s_ldGood
theorem h_s_ldGood : Cert Tryz.prog 40 S_s_ldGood := FnCx.certT (c := c_s_ldGood) F_s_ldGood (tyOk _ _ _) (spOk ⟨h_s_l1In, fun _ _ h => h, ⟨h_s_l1All, fun _ _ h => h, trivial⟩⟩) (fun _ _ _ _ _ hs => noDr_ok) Tryz.func40 rfl rfl Tryz.ntmps40 (by kernel_rfl) rfl rfl (fun _ => rfl) trivial (fun x => .inl ⟨c_s_ldGood.start () x, fun _ => rfl⟩) (fun x hb => by
  obtain ⟨⟨h0_Stairs, h0_Doors⟩, _⟩ := x
  exact s_ldGood_e h0_Stairs h0_Doors)
/-! spec.IsHouse -/
noncomputable def c_s_IsHouse : FnCx := { env := env 5 [(40, S_s_ldGood)] [], body := bodyOf Tryz.f21, res := [.tmp 2], ins := [.ro kHouse], out := [(kbool, true)], T := Bool, fin := fun r => r.1.1, inj := fun t => ((t, ()), ((), ())), pts := [], fuel := 400, dr := noDr }
noncomputable def s_IsHouse (h0_Stairs : List Int) (h0_Doors : List Int) : Bool :=
  s_ldGood h0_Stairs h0_Doors
theorem s_IsHouse_e (h0_Stairs : List Int) (h0_Doors : List Int) : c_s_IsHouse.start c_s_IsHouse.L ((h0_Stairs, h0_Doors), ()) = some (s_IsHouse h0_Stairs h0_Doors) := by kernel_rfl
noncomputable def F_s_IsHouse : Ins c_s_IsHouse.ins → Bool := fun x => s_IsHouse x.1.1 x.1.2
noncomputable def S_s_IsHouse : FSpec := mkT c_s_IsHouse.env.pre c_s_IsHouse.ins c_s_IsHouse.out c_s_IsHouse.inj F_s_IsHouse
theorem h_s_IsHouse : Cert Tryz.prog 21 S_s_IsHouse := FnCx.certT (c := c_s_IsHouse) F_s_IsHouse (tyOk _ _ _) (spOk ⟨h_s_ldGood, fun _ _ h => h, trivial⟩) (fun _ _ _ _ _ hs => noDr_ok) Tryz.func21 rfl rfl Tryz.ntmps21 (by kernel_rfl) rfl rfl (fun _ => rfl) trivial (fun x => .inl ⟨c_s_IsHouse.start () x, fun _ => rfl⟩) (fun x hb => by
  obtain ⟨⟨h0_Stairs, h0_Doors⟩, _⟩ := x
  exact s_IsHouse_e h0_Stairs h0_Doors)
/-! impl.LandingsAt -/
noncomputable def c_i_LandingsAt : FnCx := { env := env 45 [(20, S_i_IsHouse), (35, S_i_within)] [], body := bodyOf Tryz.f6, res := [.tmp 4, .tmp 5], ins := [.ro kHouse, .ro kint], out := [(kSint, true), (kbool, true)], T := List Int × Bool, fin := fun r => (r.1.1, r.1.2.1), inj := fun t => ((t.1, t.2, ()), ((), (), ())), pts := [([.inLoop [1, 1, 1, 0, 1, 0, 0], .inBlock 0, .code [1, 1, 1, 1]], Shape.mk [Bs.row kint 3 true, Bs.row kint 3 false] [(1, Ss.one (Cs.sc kint)), (6, Ss.one (Cs.sl 0)), (7, Ss.one (Cs.sc kint)), (21, Ss.one (Cs.sl 1)), (22, Ss.one (Cs.sc kint)), (23, Ss.one (Cs.sc kint))] [Ss.one (Cs.any), Ss.one (Cs.any)]), ([.inLoop [1, 1, 1, 0, 1, 0, 0, 1, 1, 0, 0, 1, 0, 1, 0, 0], .inBlock 2, .code [1, 1, 1, 0, 1, 0, 0, 1, 1, 0, 0, 1, 1], .inBlock 1, .code [1, 1, 1, 0, 1, 0, 0, 1, 1, 1], .inLoop [1, 1, 1, 0, 1, 0, 0], .inBlock 0, .code [1, 1, 1, 1]], Shape.mk [Bs.row kint 3 true, Bs.row kint 3 false] [(1, Ss.one (Cs.sc kint)), (6, Ss.one (Cs.sl 0)), (7, Ss.one (Cs.sc kint)), (9, Ss.one (Cs.sc kint)), (10, Ss.one (Cs.sc kint)), (21, Ss.one (Cs.sl 1)), (22, Ss.one (Cs.sc kint)), (23, Ss.one (Cs.sc kint))] [Ss.one (Cs.any), Ss.one (Cs.any)])], fuel := 400, dr := noDr }
noncomputable def i_LandingsAt_t1 (g1 : List (Int) → List (Int) → Int → Int → Int → Int → Option (List Int × Bool)) (g2 : List (Int) → List (Int) → Int → Int → Int → Int → Int → Int → Option (List Int × Bool)) (r0 : List (Int)) (r1 : List (Int)) (most1 : Int) (at7 : Int) (s22 : Int) (s23 : Int) : Option (List Int × Bool) :=
  bif decide (s23 < s22) then
    bif decide (0 ≤ s23) then bif decide (s23 < (↑(List.length r1) : Int)) then g2 r0 r1 most1 at7 (rdk kint r1 s23) most1 s22 s23 else none
    else none
  else some (r0, true)
noncomputable def i_LandingsAt_t2 (g1 : List (Int) → List (Int) → Int → Int → Int → Int → Option (List Int × Bool)) (g2 : List (Int) → List (Int) → Int → Int → Int → Int → Int → Int → Option (List Int × Bool)) (r0 : List (Int)) (r1 : List (Int)) (most1 : Int) (at7 : Int) (n9 : Int) (k10 : Int) (s22 : Int) (s23 : Int) : Option (List Int × Bool) :=
  bif decide (k10 < n9) then
    bif Nat.ble (List.length r0 + 1) 4294967296 then
      g2 (r0 ++ [IntKind.wrap IntKind.i64 (at7 + k10)]) r1 most1 at7 n9 (IntKind.wrap IntKind.i64 (k10 + most1)) s22 s23
    else none
  else g1 r0 r1 most1 (IntKind.wrap IntKind.i64 (at7 + n9)) s22 (IntKind.wrap IntKind.i64 (s23 + 1))
noncomputable def i_LandingsAt_t0 (g1 : List (Int) → List (Int) → Int → Int → Int → Int → Option (List Int × Bool)) (g2 : List (Int) → List (Int) → Int → Int → Int → Int → Int → Int → Option (List Int × Bool)) (h0_Stairs : List Int) (h0_Doors : List Int) (most1 : Int) : Option (List Int × Bool) :=
  bif !i_IsHouse h0_Stairs h0_Doors then some ([], false)
  else bif !i_within most1 1 40 then some ([], false) else g1 [] h0_Stairs most1 0 (↑(List.length h0_Stairs) : Int) 0
theorem i_LandingsAt_ts : Tails c_i_LandingsAt.pts c_i_LandingsAt.round :=
  ⟨fun s => by
    obtain ⟨⟨r0, r1, _⟩, ⟨most1, _, at7, _, s22, s23, _⟩, ⟨_, _, _⟩⟩ := s
    refine Tail.eq (Y := fun g => i_LandingsAt_t1 (fun r0 r1 most1 at7 s22 s23 => g.1 ((r0, r1, ()), (most1, (), at7, (), s22, s23, ()), ((), (), ()))) (fun r0 r1 most1 at7 n9 k10 s22 s23 => g.2.1 ((r0, r1, ()), (most1, (), at7, n9, k10, (), s22, s23, ()), ((), (), ()))) r0 r1 most1 at7 s22 s23) ?_ (fun g => by kernel_rfl)
    simp only [i_LandingsAt_t1]; repeat (first | exact Tail.const _ | exact Tail.here _ | exact Tail.there (Tail.here _) | exact Tail.there (Tail.there (Tail.here _)) | exact Tail.there (Tail.there (Tail.there (Tail.here _))) | exact Tail.there (Tail.there (Tail.there (Tail.there (Tail.here _)))) | exact Tail.there (Tail.there (Tail.there (Tail.there (Tail.there (Tail.here _))))) | apply Tail.cond | (apply Tail.bind; intro _)),
  fun s => by
    obtain ⟨⟨r0, r1, _⟩, ⟨most1, _, at7, n9, k10, _, s22, s23, _⟩, ⟨_, _, _⟩⟩ := s
    refine Tail.eq (Y := fun g => i_LandingsAt_t2 (fun r0 r1 most1 at7 s22 s23 => g.1 ((r0, r1, ()), (most1, (), at7, (), s22, s23, ()), ((), (), ()))) (fun r0 r1 most1 at7 n9 k10 s22 s23 => g.2.1 ((r0, r1, ()), (most1, (), at7, n9, k10, (), s22, s23, ()), ((), (), ()))) r0 r1 most1 at7 n9 k10 s22 s23) ?_ (fun g => by kernel_rfl)
    simp only [i_LandingsAt_t2]; repeat (first | exact Tail.const _ | exact Tail.here _ | exact Tail.there (Tail.here _) | exact Tail.there (Tail.there (Tail.here _)) | exact Tail.there (Tail.there (Tail.there (Tail.here _))) | exact Tail.there (Tail.there (Tail.there (Tail.there (Tail.here _)))) | exact Tail.there (Tail.there (Tail.there (Tail.there (Tail.there (Tail.here _))))) | apply Tail.cond | (apply Tail.bind; intro _)), trivial⟩
theorem i_LandingsAt_hs : ∀ x, Tail c_i_LandingsAt.pts (fun g => c_i_LandingsAt.start g x) := fun x => by
    obtain ⟨⟨h0_Stairs, h0_Doors⟩, most1, _⟩ := x
    refine Tail.eq (Y := fun g => i_LandingsAt_t0 (fun r0 r1 most1 at7 s22 s23 => g.1 ((r0, r1, ()), (most1, (), at7, (), s22, s23, ()), ((), (), ()))) (fun r0 r1 most1 at7 n9 k10 s22 s23 => g.2.1 ((r0, r1, ()), (most1, (), at7, n9, k10, (), s22, s23, ()), ((), (), ()))) h0_Stairs h0_Doors most1) ?_ (fun g => by kernel_rfl)
    simp only [i_LandingsAt_t0]; repeat (first | exact Tail.const _ | exact Tail.here _ | exact Tail.there (Tail.here _) | exact Tail.there (Tail.there (Tail.here _)) | exact Tail.there (Tail.there (Tail.there (Tail.here _))) | exact Tail.there (Tail.there (Tail.there (Tail.there (Tail.here _)))) | exact Tail.there (Tail.there (Tail.there (Tail.there (Tail.there (Tail.here _))))) | apply Tail.cond | (apply Tail.bind; intro _))
noncomputable def i_LandingsAt_L1 (r0 : List (Int)) (r1 : List (Int)) (most1 : Int) (at7 : Int) (s22 : Int) (s23 : Int) : Option (List Int × Bool) := c_i_LandingsAt.L.1 ((r0, r1, ()), (most1, (), at7, (), s22, s23, ()), ((), (), ()))
noncomputable def i_LandingsAt_L2 (r0 : List (Int)) (r1 : List (Int)) (most1 : Int) (at7 : Int) (n9 : Int) (k10 : Int) (s22 : Int) (s23 : Int) : Option (List Int × Bool) := c_i_LandingsAt.L.2.1 ((r0, r1, ()), (most1, (), at7, n9, k10, (), s22, s23, ()), ((), (), ()))
theorem i_LandingsAt_u1 (r0 : List (Int)) (r1 : List (Int)) (most1 : Int) (at7 : Int) (s22 : Int) (s23 : Int) : i_LandingsAt_L1 r0 r1 most1 at7 s22 s23 = i_LandingsAt_t1 i_LandingsAt_L1 i_LandingsAt_L2 r0 r1 most1 at7 s22 s23 :=
  (congrArg (fun g => g.1 ((r0, r1, ()), (most1, (), at7, (), s22, s23, ()), ((), (), ()))) (FnCx.L_eq i_LandingsAt_ts)).trans (by kernel_rfl)
theorem i_LandingsAt_u2 (r0 : List (Int)) (r1 : List (Int)) (most1 : Int) (at7 : Int) (n9 : Int) (k10 : Int) (s22 : Int) (s23 : Int) : i_LandingsAt_L2 r0 r1 most1 at7 n9 k10 s22 s23 = i_LandingsAt_t2 i_LandingsAt_L1 i_LandingsAt_L2 r0 r1 most1 at7 n9 k10 s22 s23 :=
  (congrArg (fun g => g.2.1 ((r0, r1, ()), (most1, (), at7, n9, k10, (), s22, s23, ()), ((), (), ()))) (FnCx.L_eq i_LandingsAt_ts)).trans (by kernel_rfl)
noncomputable def i_LandingsAt (h0_Stairs : List Int) (h0_Doors : List Int) (most1 : Int) : Option (List Int × Bool) := i_LandingsAt_t0 i_LandingsAt_L1 i_LandingsAt_L2 h0_Stairs h0_Doors most1
theorem i_LandingsAt_e (h0_Stairs : List Int) (h0_Doors : List Int) (most1 : Int) : c_i_LandingsAt.start c_i_LandingsAt.L ((h0_Stairs, h0_Doors), most1, ()) = i_LandingsAt h0_Stairs h0_Doors most1 := by kernel_rfl
noncomputable def F_i_LandingsAt : Ins c_i_LandingsAt.ins → Option (List Int × Bool) := fun x => i_LandingsAt x.1.1 x.1.2 x.2.1
noncomputable def S_i_LandingsAt : FSpec := mkF c_i_LandingsAt.env.pre c_i_LandingsAt.ins c_i_LandingsAt.out c_i_LandingsAt.inj F_i_LandingsAt
theorem h_i_LandingsAt : Cert Tryz.prog 6 S_i_LandingsAt := FnCx.certF (c := c_i_LandingsAt) F_i_LandingsAt (tyOk _ _ _) (spOk ⟨h_i_IsHouse, fun _ _ h => h, ⟨h_i_within, fun _ _ h => h, trivial⟩⟩) (fun _ _ _ _ _ hs => noDr_ok) Tryz.func6 rfl rfl Tryz.ntmps6 (by kernel_rfl) rfl rfl (fun _ => rfl) i_LandingsAt_ts i_LandingsAt_hs (fun x t hb ht => by
  obtain ⟨⟨h0_Stairs, h0_Doors⟩, most1, _⟩ := x
  exact (i_LandingsAt_e h0_Stairs h0_Doors most1).trans ht)
/-! spec.ldMost -/
noncomputable def c_s_ldMost : FnCx := { env := env 11 [(40, S_s_ldGood), (55, S_s_l1In)] [], body := bodyOf Tryz.f36, res := [.tmp 4], ins := [.ro kHouse, .ro kint], out := [(kbool, true)], T := Bool, fin := fun r => r.1.1, inj := fun t => ((t, ()), ((), (), ())), pts := [], fuel := 400, dr := noDr }
noncomputable def s_ldMost (h0_Stairs : List Int) (h0_Doors : List Int) (most1 : Int) : Bool :=
  bif s_ldGood h0_Stairs h0_Doors then s_l1In most1 1 40 else false
theorem s_ldMost_e (h0_Stairs : List Int) (h0_Doors : List Int) (most1 : Int) : c_s_ldMost.start c_s_ldMost.L ((h0_Stairs, h0_Doors), most1, ()) = some (s_ldMost h0_Stairs h0_Doors most1) := by
  refine Eq.trans (b := (bif s_ldGood h0_Stairs h0_Doors then some (s_l1In most1 1 40) else some false : Option Bool)) (by kernel_rfl) ?_
  unfold s_ldMost
  repeat (first | rfl | apply condS)
noncomputable def F_s_ldMost : Ins c_s_ldMost.ins → Bool := fun x => s_ldMost x.1.1 x.1.2 x.2.1
noncomputable def S_s_ldMost : FSpec := mkT c_s_ldMost.env.pre c_s_ldMost.ins c_s_ldMost.out c_s_ldMost.inj F_s_ldMost
theorem h_s_ldMost : Cert Tryz.prog 36 S_s_ldMost := FnCx.certT (c := c_s_ldMost) F_s_ldMost (tyOk _ _ _) (spOk ⟨h_s_ldGood, fun _ _ h => h, ⟨h_s_l1In, fun _ _ h => h, trivial⟩⟩) (fun _ _ _ _ _ hs => noDr_ok) Tryz.func36 rfl rfl Tryz.ntmps36 (by kernel_rfl) rfl rfl (fun _ => rfl) trivial (fun x => .inl ⟨c_s_ldMost.start () x, fun _ => rfl⟩) (fun x hb => by
  obtain ⟨⟨h0_Stairs, h0_Doors⟩, most1, _⟩ := x
  exact s_ldMost_e h0_Stairs h0_Doors most1)
/-! spec.ldSum -/
noncomputable def c_s_ldSum : FnCx := { env := env 17 [] [], body := bodyOf Tryz.f42, res := [.tmp 2], ins := [.ro kSint], out := [(kint, true)], T := Int, fin := fun r => r.1.1, inj := fun t => ((t, ()), ((), ())), pts := [([.inLoop [1, 1, 0, 1, 0, 0], .inBlock 0, .code [1, 1, 1]], Shape.mk [Bs.row kint 3 false] [(3, Ss.one (Cs.sc kint)), (6, Ss.one (Cs.sl 0)), (7, Ss.one (Cs.sc kint)), (8, Ss.one (Cs.sc kint))] [Ss.one (Cs.any)])], fuel := 400, dr := noDr }
noncomputable def s_ldSum_t1 (g1 : List (Int) → Int → Int → Int → Option (Int)) (r0 : List (Int)) (sum3 : Int) (s7 : Int) (s8 : Int) : Option Int :=
  bif decide (s8 < s7) then
    bif decide (0 ≤ s8) then
      bif decide (s8 < (↑(List.length r0) : Int)) then
        g1 r0 (IntKind.wrap IntKind.i64 (sum3 + rdk kint r0 s8)) s7 (IntKind.wrap IntKind.i64 (s8 + 1))
      else none
    else none
  else some sum3
noncomputable def s_ldSum_t0 (g1 : List (Int) → Int → Int → Int → Option (Int)) (list0 : List Int) : Option Int :=
  g1 list0 0 (↑(List.length list0) : Int) 0
theorem s_ldSum_ts : Tails c_s_ldSum.pts c_s_ldSum.round :=
  ⟨fun s => by
    obtain ⟨⟨r0, _⟩, ⟨sum3, _, s7, s8, _⟩, ⟨_, _⟩⟩ := s
    refine Tail.eq (Y := fun g => s_ldSum_t1 (fun r0 sum3 s7 s8 => g.1 ((r0, ()), (sum3, (), s7, s8, ()), ((), ()))) r0 sum3 s7 s8) ?_ (fun g => by kernel_rfl)
    simp only [s_ldSum_t1]; repeat (first | exact Tail.const _ | exact Tail.here _ | exact Tail.there (Tail.here _) | exact Tail.there (Tail.there (Tail.here _)) | exact Tail.there (Tail.there (Tail.there (Tail.here _))) | exact Tail.there (Tail.there (Tail.there (Tail.there (Tail.here _)))) | exact Tail.there (Tail.there (Tail.there (Tail.there (Tail.there (Tail.here _))))) | apply Tail.cond | (apply Tail.bind; intro _)), trivial⟩
theorem s_ldSum_hs : ∀ x, Tail c_s_ldSum.pts (fun g => c_s_ldSum.start g x) := fun x => by
    obtain ⟨list0, _⟩ := x
    refine Tail.eq (Y := fun g => s_ldSum_t0 (fun r0 sum3 s7 s8 => g.1 ((r0, ()), (sum3, (), s7, s8, ()), ((), ()))) list0) ?_ (fun g => by kernel_rfl)
    simp only [s_ldSum_t0]; repeat (first | exact Tail.const _ | exact Tail.here _ | exact Tail.there (Tail.here _) | exact Tail.there (Tail.there (Tail.here _)) | exact Tail.there (Tail.there (Tail.there (Tail.here _))) | exact Tail.there (Tail.there (Tail.there (Tail.there (Tail.here _)))) | exact Tail.there (Tail.there (Tail.there (Tail.there (Tail.there (Tail.here _))))) | apply Tail.cond | (apply Tail.bind; intro _))
noncomputable def s_ldSum_L1 (r0 : List (Int)) (sum3 : Int) (s7 : Int) (s8 : Int) : Option Int := c_s_ldSum.L.1 ((r0, ()), (sum3, (), s7, s8, ()), ((), ()))
theorem s_ldSum_u1 (r0 : List (Int)) (sum3 : Int) (s7 : Int) (s8 : Int) : s_ldSum_L1 r0 sum3 s7 s8 = s_ldSum_t1 s_ldSum_L1 r0 sum3 s7 s8 :=
  (congrArg (fun g => g.1 ((r0, ()), (sum3, (), s7, s8, ()), ((), ()))) (FnCx.L_eq s_ldSum_ts)).trans (by kernel_rfl)
noncomputable def s_ldSum (list0 : List Int) : Option Int := s_ldSum_t0 s_ldSum_L1 list0
theorem s_ldSum_e (list0 : List Int) : c_s_ldSum.start c_s_ldSum.L (list0, ()) = s_ldSum list0 := by kernel_rfl
noncomputable def F_s_ldSum : Ins c_s_ldSum.ins → Option Int := fun x => s_ldSum x.1
noncomputable def S_s_ldSum : FSpec := mkF c_s_ldSum.env.pre c_s_ldSum.ins c_s_ldSum.out c_s_ldSum.inj F_s_ldSum
theorem h_s_ldSum : Cert Tryz.prog 42 S_s_ldSum := FnCx.certF (c := c_s_ldSum) F_s_ldSum (tyOk _ _ _) (spOk trivial) (fun _ _ _ _ _ hs => noDr_ok) Tryz.func42 rfl rfl Tryz.ntmps42 (by kernel_rfl) rfl rfl (fun _ => rfl) s_ldSum_ts s_ldSum_hs (fun x t hb ht => by
  obtain ⟨list0, _⟩ := x
  exact (s_ldSum_e list0).trans ht)
/-! spec.ldTo -/
noncomputable def c_s_ldTo : FnCx := { env := env 10 [(42, S_s_ldSum)] [], body := bodyOf Tryz.f60, res := [.tmp 4], ins := [.ro kHouse, .ro kint], out := [(kint, true)], T := Int, fin := fun r => r.1.1, inj := fun t => ((t, ()), ((), (), ())), pts := [], fuel := 400, dr := noDr }
noncomputable def s_ldTo (h0_Stairs : List Int) (h0_Doors : List Int) (floor1 : Int) : Option Int :=
  bif decide (0 ≤ floor1) then
    bif decide (floor1 ≤ (↑(List.length h0_Stairs) : Int)) then
      Option.bind (s_ldSum (List.take (Int.toNat floor1 - Int.toNat 0) (List.drop (Int.toNat 0) h0_Stairs))) fun r => some r
    else none
  else none
theorem s_ldTo_e (h0_Stairs : List Int) (h0_Doors : List Int) (floor1 : Int) : c_s_ldTo.start c_s_ldTo.L ((h0_Stairs, h0_Doors), floor1, ()) = s_ldTo h0_Stairs h0_Doors floor1 := by kernel_rfl
noncomputable def F_s_ldTo : Ins c_s_ldTo.ins → Option Int := fun x => s_ldTo x.1.1 x.1.2 x.2.1
noncomputable def S_s_ldTo : FSpec := mkF c_s_ldTo.env.pre c_s_ldTo.ins c_s_ldTo.out c_s_ldTo.inj F_s_ldTo
theorem h_s_ldTo : Cert Tryz.prog 60 S_s_ldTo := FnCx.certF (c := c_s_ldTo) F_s_ldTo (tyOk _ _ _) (spOk ⟨h_s_ldSum, fun _ _ h => h, trivial⟩) (fun _ _ _ _ _ hs => noDr_ok) Tryz.func60 rfl rfl Tryz.ntmps60 (by kernel_rfl) rfl rfl (fun _ => rfl) trivial (fun x => .inl ⟨c_s_ldTo.start () x, fun _ => rfl⟩) (fun x t hb ht => by
  obtain ⟨⟨h0_Stairs, h0_Doors⟩, floor1, _⟩ := x
  exact (s_ldTo_e h0_Stairs h0_Doors floor1).trans ht)
/-! spec.ldLandings -/
noncomputable def c_s_ldLandings : FnCx := { env := env 34 [(60, S_s_ldTo)] [], body := bodyOf Tryz.f37, res := [.tmp 4], ins := [.ro kHouse, .ro kint], out := [(kSint, true)], T := List Int, fin := fun r => r.1.1, inj := fun t => ((t, ()), ((), (), ())), pts := [([.inLoop [1, 1, 0, 1, 0, 0], .inBlock 0, .code [1, 1, 1]], Shape.mk [Bs.box 26 [Cs.sl 2, Cs.sl 3], Bs.row kint 3 true, Bs.row kint 3 false, Bs.row kint 3 false] [(1, Ss.one (Cs.sc kint)), (2, Ss.one (Cs.ptr 0 0)), (5, Ss.one (Cs.sl 1)), (10, Ss.one (Cs.sl 2)), (11, Ss.one (Cs.sc kint)), (12, Ss.one (Cs.sc kint))] [Ss.one (Cs.any), Ss.one (Cs.any)]), ([.inLoop [1, 1, 0, 1, 0, 0, 1, 1, 0, 0, 1, 1, 0, 0], .inBlock 2, .inBlock 1, .code [1, 1, 0, 1, 0, 0, 1, 1, 1], .inLoop [1, 1, 0, 1, 0, 0], .inBlock 0, .code [1, 1, 1]], Shape.mk [Bs.box 26 [Cs.sl 2, Cs.sl 3], Bs.row kint 3 true, Bs.row kint 3 false, Bs.row kint 3 false] [(1, Ss.one (Cs.sc kint)), (2, Ss.one (Cs.ptr 0 0)), (5, Ss.one (Cs.sl 1)), (6, Ss.one (Cs.sc kint)), (7, Ss.one (Cs.sc kint)), (8, Ss.one (Cs.sc kint)), (10, Ss.one (Cs.sl 2)), (11, Ss.one (Cs.sc kint)), (12, Ss.one (Cs.sc kint))] [Ss.one (Cs.any), Ss.one (Cs.any)])], fuel := 400, dr := noDr }
noncomputable def s_ldLandings_t1 (g1 : List (Int) → List (Int) → List (Int) → Int → Int → Int → Option (List Int)) (g2 : List (Int) → List (Int) → List (Int) → Int → Int → Int → Int → Int → Int → Option (List Int)) (r1 : List (Int)) (r2 : List (Int)) (r3 : List (Int)) (most1 : Int) (s11 : Int) (s12 : Int) : Option (List Int) :=
  bif decide (s12 < s11) then
    bif decide (0 ≤ s12) then bif decide (s12 < (↑(List.length r2) : Int)) then g2 r1 r2 r3 most1 s12 (rdk kint r2 s12) most1 s11 s12 else none
    else none
  else some r1
noncomputable def s_ldLandings_t2 (g1 : List (Int) → List (Int) → List (Int) → Int → Int → Int → Option (List Int)) (g2 : List (Int) → List (Int) → List (Int) → Int → Int → Int → Int → Int → Int → Option (List Int)) (r1 : List (Int)) (r2 : List (Int)) (r3 : List (Int)) (most1 : Int) (floor6 : Int) (n7 : Int) (step8 : Int) (s11 : Int) (s12 : Int) : Option (List Int) :=
  bif decide (step8 < n7) then
    Option.bind (s_ldTo r2 r3 floor6) fun r =>
      bif Nat.ble (List.length r1 + 1) 4294967296 then
        g2 (r1 ++ [IntKind.wrap IntKind.i64 (r + step8)]) r2 r3 most1 floor6 n7 (IntKind.wrap IntKind.i64 (step8 + most1)) s11 s12
      else none
  else g1 r1 r2 r3 most1 s11 (IntKind.wrap IntKind.i64 (s12 + 1))
noncomputable def s_ldLandings_t0 (g1 : List (Int) → List (Int) → List (Int) → Int → Int → Int → Option (List Int)) (g2 : List (Int) → List (Int) → List (Int) → Int → Int → Int → Int → Int → Int → Option (List Int)) (h0_Stairs : List Int) (h0_Doors : List Int) (most1 : Int) : Option (List Int) :=
  g1 [] h0_Stairs h0_Doors most1 (↑(List.length h0_Stairs) : Int) 0
theorem s_ldLandings_ts : Tails c_s_ldLandings.pts c_s_ldLandings.round :=
  ⟨fun s => by
    obtain ⟨⟨⟨_, _, _⟩, r1, r2, r3, _⟩, ⟨most1, _, _, _, s11, s12, _⟩, ⟨_, _, _⟩⟩ := s
    refine Tail.eq (Y := fun g => s_ldLandings_t1 (fun r1 r2 r3 most1 s11 s12 => g.1 ((((), (), ()), r1, r2, r3, ()), (most1, (), (), (), s11, s12, ()), ((), (), ()))) (fun r1 r2 r3 most1 floor6 n7 step8 s11 s12 => g.2.1 ((((), (), ()), r1, r2, r3, ()), (most1, (), (), floor6, n7, step8, (), s11, s12, ()), ((), (), ()))) r1 r2 r3 most1 s11 s12) ?_ (fun g => by kernel_rfl)
    simp only [s_ldLandings_t1]; repeat (first | exact Tail.const _ | exact Tail.here _ | exact Tail.there (Tail.here _) | exact Tail.there (Tail.there (Tail.here _)) | exact Tail.there (Tail.there (Tail.there (Tail.here _))) | exact Tail.there (Tail.there (Tail.there (Tail.there (Tail.here _)))) | exact Tail.there (Tail.there (Tail.there (Tail.there (Tail.there (Tail.here _))))) | apply Tail.cond | (apply Tail.bind; intro _)),
  fun s => by
    obtain ⟨⟨⟨_, _, _⟩, r1, r2, r3, _⟩, ⟨most1, _, _, floor6, n7, step8, _, s11, s12, _⟩, ⟨_, _, _⟩⟩ := s
    refine Tail.eq (Y := fun g => s_ldLandings_t2 (fun r1 r2 r3 most1 s11 s12 => g.1 ((((), (), ()), r1, r2, r3, ()), (most1, (), (), (), s11, s12, ()), ((), (), ()))) (fun r1 r2 r3 most1 floor6 n7 step8 s11 s12 => g.2.1 ((((), (), ()), r1, r2, r3, ()), (most1, (), (), floor6, n7, step8, (), s11, s12, ()), ((), (), ()))) r1 r2 r3 most1 floor6 n7 step8 s11 s12) ?_ (fun g => by kernel_rfl)
    simp only [s_ldLandings_t2]; repeat (first | exact Tail.const _ | exact Tail.here _ | exact Tail.there (Tail.here _) | exact Tail.there (Tail.there (Tail.here _)) | exact Tail.there (Tail.there (Tail.there (Tail.here _))) | exact Tail.there (Tail.there (Tail.there (Tail.there (Tail.here _)))) | exact Tail.there (Tail.there (Tail.there (Tail.there (Tail.there (Tail.here _))))) | apply Tail.cond | (apply Tail.bind; intro _)), trivial⟩
theorem s_ldLandings_hs : ∀ x, Tail c_s_ldLandings.pts (fun g => c_s_ldLandings.start g x) := fun x => by
    obtain ⟨⟨h0_Stairs, h0_Doors⟩, most1, _⟩ := x
    refine Tail.eq (Y := fun g => s_ldLandings_t0 (fun r1 r2 r3 most1 s11 s12 => g.1 ((((), (), ()), r1, r2, r3, ()), (most1, (), (), (), s11, s12, ()), ((), (), ()))) (fun r1 r2 r3 most1 floor6 n7 step8 s11 s12 => g.2.1 ((((), (), ()), r1, r2, r3, ()), (most1, (), (), floor6, n7, step8, (), s11, s12, ()), ((), (), ()))) h0_Stairs h0_Doors most1) ?_ (fun g => by kernel_rfl)
    simp only [s_ldLandings_t0]; repeat (first | exact Tail.const _ | exact Tail.here _ | exact Tail.there (Tail.here _) | exact Tail.there (Tail.there (Tail.here _)) | exact Tail.there (Tail.there (Tail.there (Tail.here _))) | exact Tail.there (Tail.there (Tail.there (Tail.there (Tail.here _)))) | exact Tail.there (Tail.there (Tail.there (Tail.there (Tail.there (Tail.here _))))) | apply Tail.cond | (apply Tail.bind; intro _))
noncomputable def s_ldLandings_L1 (r1 : List (Int)) (r2 : List (Int)) (r3 : List (Int)) (most1 : Int) (s11 : Int) (s12 : Int) : Option (List Int) := c_s_ldLandings.L.1 ((((), (), ()), r1, r2, r3, ()), (most1, (), (), (), s11, s12, ()), ((), (), ()))
noncomputable def s_ldLandings_L2 (r1 : List (Int)) (r2 : List (Int)) (r3 : List (Int)) (most1 : Int) (floor6 : Int) (n7 : Int) (step8 : Int) (s11 : Int) (s12 : Int) : Option (List Int) := c_s_ldLandings.L.2.1 ((((), (), ()), r1, r2, r3, ()), (most1, (), (), floor6, n7, step8, (), s11, s12, ()), ((), (), ()))
theorem s_ldLandings_u1 (r1 : List (Int)) (r2 : List (Int)) (r3 : List (Int)) (most1 : Int) (s11 : Int) (s12 : Int) : s_ldLandings_L1 r1 r2 r3 most1 s11 s12 = s_ldLandings_t1 s_ldLandings_L1 s_ldLandings_L2 r1 r2 r3 most1 s11 s12 :=
  (congrArg (fun g => g.1 ((((), (), ()), r1, r2, r3, ()), (most1, (), (), (), s11, s12, ()), ((), (), ()))) (FnCx.L_eq s_ldLandings_ts)).trans (by kernel_rfl)
theorem s_ldLandings_u2 (r1 : List (Int)) (r2 : List (Int)) (r3 : List (Int)) (most1 : Int) (floor6 : Int) (n7 : Int) (step8 : Int) (s11 : Int) (s12 : Int) : s_ldLandings_L2 r1 r2 r3 most1 floor6 n7 step8 s11 s12 = s_ldLandings_t2 s_ldLandings_L1 s_ldLandings_L2 r1 r2 r3 most1 floor6 n7 step8 s11 s12 :=
  (congrArg (fun g => g.2.1 ((((), (), ()), r1, r2, r3, ()), (most1, (), (), floor6, n7, step8, (), s11, s12, ()), ((), (), ()))) (FnCx.L_eq s_ldLandings_ts)).trans (by kernel_rfl)
noncomputable def s_ldLandings (h0_Stairs : List Int) (h0_Doors : List Int) (most1 : Int) : Option (List Int) := s_ldLandings_t0 s_ldLandings_L1 s_ldLandings_L2 h0_Stairs h0_Doors most1
theorem s_ldLandings_e (h0_Stairs : List Int) (h0_Doors : List Int) (most1 : Int) : c_s_ldLandings.start c_s_ldLandings.L ((h0_Stairs, h0_Doors), most1, ()) = s_ldLandings h0_Stairs h0_Doors most1 := by kernel_rfl
noncomputable def F_s_ldLandings : Ins c_s_ldLandings.ins → Option (List Int) := fun x => s_ldLandings x.1.1 x.1.2 x.2.1
noncomputable def S_s_ldLandings : FSpec := mkF c_s_ldLandings.env.pre c_s_ldLandings.ins c_s_ldLandings.out c_s_ldLandings.inj F_s_ldLandings
theorem h_s_ldLandings : Cert Tryz.prog 37 S_s_ldLandings := FnCx.certF (c := c_s_ldLandings) F_s_ldLandings (tyOk _ _ _) (spOk ⟨h_s_ldTo, fun _ _ h => h, trivial⟩) (fun _ _ _ _ _ hs => noDr_ok) Tryz.func37 rfl rfl Tryz.ntmps37 (by kernel_rfl) rfl rfl (fun _ => rfl) s_ldLandings_ts s_ldLandings_hs (fun x t hb ht => by
  obtain ⟨⟨h0_Stairs, h0_Doors⟩, most1, _⟩ := x
  exact (s_ldLandings_e h0_Stairs h0_Doors most1).trans ht)
/-! spec.LandingsAt -/
noncomputable def c_s_LandingsAt : FnCx := { env := env 13 [(36, S_s_ldMost), (37, S_s_ldLandings)] [], body := bodyOf Tryz.f7, res := [.tmp 4, .tmp 5], ins := [.ro kHouse, .ro kint], out := [(kSint, true), (kbool, true)], T := List Int × Bool, fin := fun r => (r.1.1, r.1.2.1), inj := fun t => ((t.1, t.2, ()), ((), (), ())), pts := [], fuel := 400, dr := noDr }
noncomputable def s_LandingsAt (h0_Stairs : List Int) (h0_Doors : List Int) (most1 : Int) : Option (List Int × Bool) :=
  bif !s_ldMost h0_Stairs h0_Doors most1 then some ([], false) else Option.bind (s_ldLandings h0_Stairs h0_Doors most1) fun r => some (r, true)
theorem s_LandingsAt_e (h0_Stairs : List Int) (h0_Doors : List Int) (most1 : Int) : c_s_LandingsAt.start c_s_LandingsAt.L ((h0_Stairs, h0_Doors), most1, ()) = s_LandingsAt h0_Stairs h0_Doors most1 := by kernel_rfl
noncomputable def F_s_LandingsAt : Ins c_s_LandingsAt.ins → Option (List Int × Bool) := fun x => s_LandingsAt x.1.1 x.1.2 x.2.1
noncomputable def S_s_LandingsAt : FSpec := mkF c_s_LandingsAt.env.pre c_s_LandingsAt.ins c_s_LandingsAt.out c_s_LandingsAt.inj F_s_LandingsAt
theorem h_s_LandingsAt : Cert Tryz.prog 7 S_s_LandingsAt := FnCx.certF (c := c_s_LandingsAt) F_s_LandingsAt (tyOk _ _ _) (spOk ⟨h_s_ldMost, fun _ _ h => h, ⟨h_s_ldLandings, fun _ _ h => h, trivial⟩⟩) (fun _ _ _ _ _ hs => noDr_ok) Tryz.func7 rfl rfl Tryz.ntmps7 (by kernel_rfl) rfl rfl (fun _ => rfl) trivial (fun x => .inl ⟨c_s_LandingsAt.start () x, fun _ => rfl⟩) (fun x t hb ht => by
  obtain ⟨⟨h0_Stairs, h0_Doors⟩, most1, _⟩ := x
  exact (s_LandingsAt_e h0_Stairs h0_Doors most1).trans ht)
/-! impl.LandingsNeeded -/
noncomputable def c_i_LandingsNeeded : FnCx := { env := env 17 [(6, S_i_LandingsAt)] [], body := bodyOf Tryz.f8, res := [.tmp 4, .tmp 5], ins := [.ro kHouse, .ro kint], out := [(kint, true), (kbool, true)], T := Int × Bool, fin := fun r => (r.1.1, r.1.2.1), inj := fun t => ((t.1, t.2, ()), ((), (), ())), pts := [], fuel := 400, dr := noDr }
noncomputable def i_LandingsNeeded (h0_Stairs : List Int) (h0_Doors : List Int) (most1 : Int) : Option (Int × Bool) :=
  Option.bind (i_LandingsAt h0_Stairs h0_Doors most1) fun r => some ((↑(List.length (Prod.fst r)) : Int), Prod.snd r)
theorem i_LandingsNeeded_e (h0_Stairs : List Int) (h0_Doors : List Int) (most1 : Int) : c_i_LandingsNeeded.start c_i_LandingsNeeded.L ((h0_Stairs, h0_Doors), most1, ()) = i_LandingsNeeded h0_Stairs h0_Doors most1 := by kernel_rfl
noncomputable def F_i_LandingsNeeded : Ins c_i_LandingsNeeded.ins → Option (Int × Bool) := fun x => i_LandingsNeeded x.1.1 x.1.2 x.2.1
noncomputable def S_i_LandingsNeeded : FSpec := mkF c_i_LandingsNeeded.env.pre c_i_LandingsNeeded.ins c_i_LandingsNeeded.out c_i_LandingsNeeded.inj F_i_LandingsNeeded
theorem h_i_LandingsNeeded : Cert Tryz.prog 8 S_i_LandingsNeeded := FnCx.certF (c := c_i_LandingsNeeded) F_i_LandingsNeeded (tyOk _ _ _) (spOk ⟨h_i_LandingsAt, fun _ _ h => h, trivial⟩) (fun _ _ _ _ _ hs => noDr_ok) Tryz.func8 rfl rfl Tryz.ntmps8 (by kernel_rfl) rfl rfl (fun _ => rfl) trivial (fun x => .inl ⟨c_i_LandingsNeeded.start () x, fun _ => rfl⟩) (fun x t hb ht => by
  obtain ⟨⟨h0_Stairs, h0_Doors⟩, most1, _⟩ := x
  exact (i_LandingsNeeded_e h0_Stairs h0_Doors most1).trans ht)
/-! spec.LandingsNeeded -/
noncomputable def c_s_LandingsNeeded : FnCx := { env := env 14 [(36, S_s_ldMost), (37, S_s_ldLandings)] [], body := bodyOf Tryz.f9, res := [.tmp 4, .tmp 5], ins := [.ro kHouse, .ro kint], out := [(kint, true), (kbool, true)], T := Int × Bool, fin := fun r => (r.1.1, r.1.2.1), inj := fun t => ((t.1, t.2, ()), ((), (), ())), pts := [], fuel := 400, dr := noDr }
noncomputable def s_LandingsNeeded (h0_Stairs : List Int) (h0_Doors : List Int) (most1 : Int) : Option (Int × Bool) :=
  bif !s_ldMost h0_Stairs h0_Doors most1 then some (0, false)
  else Option.bind (s_ldLandings h0_Stairs h0_Doors most1) fun r => some ((↑(List.length r) : Int), true)
theorem s_LandingsNeeded_e (h0_Stairs : List Int) (h0_Doors : List Int) (most1 : Int) : c_s_LandingsNeeded.start c_s_LandingsNeeded.L ((h0_Stairs, h0_Doors), most1, ()) = s_LandingsNeeded h0_Stairs h0_Doors most1 := by kernel_rfl
noncomputable def F_s_LandingsNeeded : Ins c_s_LandingsNeeded.ins → Option (Int × Bool) := fun x => s_LandingsNeeded x.1.1 x.1.2 x.2.1
noncomputable def S_s_LandingsNeeded : FSpec := mkF c_s_LandingsNeeded.env.pre c_s_LandingsNeeded.ins c_s_LandingsNeeded.out c_s_LandingsNeeded.inj F_s_LandingsNeeded
theorem h_s_LandingsNeeded : Cert Tryz.prog 9 S_s_LandingsNeeded := FnCx.certF (c := c_s_LandingsNeeded) F_s_LandingsNeeded (tyOk _ _ _) (spOk ⟨h_s_ldMost, fun _ _ h => h, ⟨h_s_ldLandings, fun _ _ h => h, trivial⟩⟩) (fun _ _ _ _ _ hs => noDr_ok) Tryz.func9 rfl rfl Tryz.ntmps9 (by kernel_rfl) rfl rfl (fun _ => rfl) trivial (fun x => .inl ⟨c_s_LandingsNeeded.start () x, fun _ => rfl⟩) (fun x t hb ht => by
  obtain ⟨⟨h0_Stairs, h0_Doors⟩, most1, _⟩ := x
  exact (s_LandingsNeeded_e h0_Stairs h0_Doors most1).trans ht)
/-! slices.Max[[]int,int] -/
noncomputable def c_slices_Max_int : FnCx := { env := env 25 [] [], body := bodyOf Tryz.f38, res := [.tmp 2], ins := [.ro kSint], out := [(kint, true)], T := Int, fin := fun r => r.1.1, inj := fun t => ((t, ()), ((), ())), pts := [([.inLoop [1, 1, 1, 0, 1, 0, 0], .inBlock 0, .code [1, 1, 1, 1]], Shape.mk [Bs.row kint 3 false] [(0, Ss.one (Cs.sl 0)), (3, Ss.one (Cs.sc kint)), (4, Ss.one (Cs.sc kint))] [Ss.one (Cs.any)])], fuel := 400, dr := noDr }
noncomputable def slices_Max_int_t1 (g1 : List (Int) → Int → Int → Option (Int)) (r0 : List (Int)) (m3 : Int) (i4 : Int) : Option Int :=
  bif decide (i4 < (↑(List.length r0) : Int)) then
    bif decide (0 ≤ i4) then
      bif decide (i4 < (↑(List.length r0) : Int)) then
        g1 r0 (bif decide (rdk kint r0 i4 > m3) then rdk kint r0 i4 else m3) (IntKind.wrap IntKind.i64 (i4 + 1))
      else none
    else none
  else some m3
noncomputable def slices_Max_int_t0 (g1 : List (Int) → Int → Int → Option (Int)) (x0 : List Int) : Option Int :=
  bif decide ((↑(List.length x0) : Int) < 1) then none else bif decide (0 < (↑(List.length x0) : Int)) then g1 x0 (rdk kint x0 0) 1 else none
theorem slices_Max_int_ts : Tails c_slices_Max_int.pts c_slices_Max_int.round :=
  ⟨fun s => by
    obtain ⟨⟨r0, _⟩, ⟨_, m3, i4, _⟩, ⟨_, _⟩⟩ := s
    refine Tail.eq (Y := fun g => slices_Max_int_t1 (fun r0 m3 i4 => g.1 ((r0, ()), ((), m3, i4, ()), ((), ()))) r0 m3 i4) ?_ (fun g => by kernel_rfl)
    simp only [slices_Max_int_t1]; repeat (first | exact Tail.const _ | exact Tail.here _ | exact Tail.there (Tail.here _) | exact Tail.there (Tail.there (Tail.here _)) | exact Tail.there (Tail.there (Tail.there (Tail.here _))) | exact Tail.there (Tail.there (Tail.there (Tail.there (Tail.here _)))) | exact Tail.there (Tail.there (Tail.there (Tail.there (Tail.there (Tail.here _))))) | apply Tail.cond | (apply Tail.bind; intro _)), trivial⟩
theorem slices_Max_int_hs : ∀ x, Tail c_slices_Max_int.pts (fun g => c_slices_Max_int.start g x) := fun x => by
    obtain ⟨x0, _⟩ := x
    refine Tail.eq (Y := fun g => slices_Max_int_t0 (fun r0 m3 i4 => g.1 ((r0, ()), ((), m3, i4, ()), ((), ()))) x0) ?_ (fun g => by kernel_rfl)
    simp only [slices_Max_int_t0]; repeat (first | exact Tail.const _ | exact Tail.here _ | exact Tail.there (Tail.here _) | exact Tail.there (Tail.there (Tail.here _)) | exact Tail.there (Tail.there (Tail.there (Tail.here _))) | exact Tail.there (Tail.there (Tail.there (Tail.there (Tail.here _)))) | exact Tail.there (Tail.there (Tail.there (Tail.there (Tail.there (Tail.here _))))) | apply Tail.cond | (apply Tail.bind; intro _))
noncomputable def slices_Max_int_L1 (r0 : List (Int)) (m3 : Int) (i4 : Int) : Option Int := c_slices_Max_int.L.1 ((r0, ()), ((), m3, i4, ()), ((), ()))
theorem slices_Max_int_u1 (r0 : List (Int)) (m3 : Int) (i4 : Int) : slices_Max_int_L1 r0 m3 i4 = slices_Max_int_t1 slices_Max_int_L1 r0 m3 i4 :=
  (congrArg (fun g => g.1 ((r0, ()), ((), m3, i4, ()), ((), ()))) (FnCx.L_eq slices_Max_int_ts)).trans (by kernel_rfl)
noncomputable def slices_Max_int (x0 : List Int) : Option Int := slices_Max_int_t0 slices_Max_int_L1 x0
theorem slices_Max_int_e (x0 : List Int) : c_slices_Max_int.start c_slices_Max_int.L (x0, ()) = slices_Max_int x0 := by kernel_rfl
noncomputable def F_slices_Max_int : Ins c_slices_Max_int.ins → Option Int := fun x => slices_Max_int x.1
noncomputable def S_slices_Max_int : FSpec := mkF c_slices_Max_int.env.pre c_slices_Max_int.ins c_slices_Max_int.out c_slices_Max_int.inj F_slices_Max_int
theorem h_slices_Max_int : Cert Tryz.prog 38 S_slices_Max_int := FnCx.certF (c := c_slices_Max_int) F_slices_Max_int (tyOk _ _ _) (spOk trivial) (fun _ _ _ _ _ hs => noDr_ok) Tryz.func38 rfl rfl Tryz.ntmps38 (by kernel_rfl) rfl rfl (fun _ => rfl) slices_Max_int_ts slices_Max_int_hs (fun x t hb ht => by
  obtain ⟨x0, _⟩ := x
  exact (slices_Max_int_e x0).trans ht)
/-! slices.Index[[]int,int] -/
noncomputable def c_slices_Index_int : FnCx := { env := env 19 [] [], body := bodyOf Tryz.f39, res := [.tmp 4], ins := [.ro kSint, .ro kint], out := [(kint, true)], T := Int, fin := fun r => r.1.1, inj := fun t => ((t, ()), ((), (), ())), pts := [([.inLoop [1, 0, 1, 0, 0], .inBlock 0, .code [1, 1]], Shape.mk [Bs.row kint 3 false] [(0, Ss.one (Cs.sl 0)), (1, Ss.one (Cs.sc kint)), (7, Ss.one (Cs.sc kint)), (8, Ss.one (Cs.sc kint))] [Ss.one (Cs.any), Ss.one (Cs.any)])], fuel := 400, dr := noDr }
noncomputable def slices_Index_int_t1 (g1 : List (Int) → Int → Int → Int → Option (Int)) (r0 : List (Int)) (v1 : Int) (s7 : Int) (s8 : Int) : Option Int :=
  bif decide (s8 < s7) then
    bif decide (0 ≤ s8) then
      bif decide (s8 < (↑(List.length r0) : Int)) then bif v1 == rdk kint r0 s8 then some s8 else g1 r0 v1 s7 (IntKind.wrap IntKind.i64 (s8 + 1))
      else none
    else none
  else some (-1)
noncomputable def slices_Index_int_t0 (g1 : List (Int) → Int → Int → Int → Option (Int)) (s0 : List Int) (v1 : Int) : Option Int :=
  g1 s0 v1 (↑(List.length s0) : Int) 0
theorem slices_Index_int_ts : Tails c_slices_Index_int.pts c_slices_Index_int.round :=
  ⟨fun s => by
    obtain ⟨⟨r0, _⟩, ⟨_, v1, s7, s8, _⟩, ⟨_, _, _⟩⟩ := s
    refine Tail.eq (Y := fun g => slices_Index_int_t1 (fun r0 v1 s7 s8 => g.1 ((r0, ()), ((), v1, s7, s8, ()), ((), (), ()))) r0 v1 s7 s8) ?_ (fun g => by kernel_rfl)
    simp only [slices_Index_int_t1]; repeat (first | exact Tail.const _ | exact Tail.here _ | exact Tail.there (Tail.here _) | exact Tail.there (Tail.there (Tail.here _)) | exact Tail.there (Tail.there (Tail.there (Tail.here _))) | exact Tail.there (Tail.there (Tail.there (Tail.there (Tail.here _)))) | exact Tail.there (Tail.there (Tail.there (Tail.there (Tail.there (Tail.here _))))) | apply Tail.cond | (apply Tail.bind; intro _)), trivial⟩
theorem slices_Index_int_hs : ∀ x, Tail c_slices_Index_int.pts (fun g => c_slices_Index_int.start g x) := fun x => by
    obtain ⟨s0, v1, _⟩ := x
    refine Tail.eq (Y := fun g => slices_Index_int_t0 (fun r0 v1 s7 s8 => g.1 ((r0, ()), ((), v1, s7, s8, ()), ((), (), ()))) s0 v1) ?_ (fun g => by kernel_rfl)
    simp only [slices_Index_int_t0]; repeat (first | exact Tail.const _ | exact Tail.here _ | exact Tail.there (Tail.here _) | exact Tail.there (Tail.there (Tail.here _)) | exact Tail.there (Tail.there (Tail.there (Tail.here _))) | exact Tail.there (Tail.there (Tail.there (Tail.there (Tail.here _)))) | exact Tail.there (Tail.there (Tail.there (Tail.there (Tail.there (Tail.here _))))) | apply Tail.cond | (apply Tail.bind; intro _))
noncomputable def slices_Index_int_L1 (r0 : List (Int)) (v1 : Int) (s7 : Int) (s8 : Int) : Option Int := c_slices_Index_int.L.1 ((r0, ()), ((), v1, s7, s8, ()), ((), (), ()))
theorem slices_Index_int_u1 (r0 : List (Int)) (v1 : Int) (s7 : Int) (s8 : Int) : slices_Index_int_L1 r0 v1 s7 s8 = slices_Index_int_t1 slices_Index_int_L1 r0 v1 s7 s8 :=
  (congrArg (fun g => g.1 ((r0, ()), ((), v1, s7, s8, ()), ((), (), ()))) (FnCx.L_eq slices_Index_int_ts)).trans (by kernel_rfl)
noncomputable def slices_Index_int (s0 : List Int) (v1 : Int) : Option Int := slices_Index_int_t0 slices_Index_int_L1 s0 v1
theorem slices_Index_int_e (s0 : List Int) (v1 : Int) : c_slices_Index_int.start c_slices_Index_int.L (s0, v1, ()) = slices_Index_int s0 v1 := by kernel_rfl
-- NICE tot
noncomputable def slices_Index_int_n (l : List Int) (v : Int) : Int := idxF (fun x => v == x) l 0
theorem slices_Index_int_ok (l : List Int) (v : Int) (hb : BdI c_slices_Index_int.ins (l, v, ())) : slices_Index_int l v = some (slices_Index_int_n l v) :=
  have hm : l.length ≤ maxLen := hb.1.1
  loop_idx (L := fun i => slices_Index_int_L1 l v l.length (i : Int)) (l := l) (p := fun x => v == x)
    (fun i h => by simp only [slices_Index_int_u1 l v l.length i, slices_Index_int_t1, rdk_get (k := kint) h, wrapS h hm]; simp [h]) (by simp [slices_Index_int_u1 l v l.length l.length, slices_Index_int_t1])
noncomputable def F_slices_Index_int : Ins c_slices_Index_int.ins → Int := fun x => slices_Index_int_n x.1 x.2.1
noncomputable def S_slices_Index_int : FSpec := mkT c_slices_Index_int.env.pre c_slices_Index_int.ins c_slices_Index_int.out c_slices_Index_int.inj F_slices_Index_int
theorem h_slices_Index_int : Cert Tryz.prog 39 S_slices_Index_int := FnCx.certT (c := c_slices_Index_int) F_slices_Index_int (tyOk _ _ _) (spOk trivial) (fun _ _ _ _ _ hs => noDr_ok) Tryz.func39 rfl rfl Tryz.ntmps39 (by kernel_rfl) rfl rfl (fun _ => rfl) slices_Index_int_ts slices_Index_int_hs (fun x hb => by
  obtain ⟨s0, v1, _⟩ := x
  exact (slices_Index_int_e s0 v1).trans (slices_Index_int_ok s0 v1 hb))
/-! impl.LongestStairs -/
noncomputable def c_i_LongestStairs : FnCx := { env := env 17 [(20, S_i_IsHouse), (38, S_slices_Max_int), (39, S_slices_Index_int)] [], body := bodyOf Tryz.f10, res := [.tmp 2, .tmp 3, .tmp 4], ins := [.ro kHouse], out := [(kint, true), (kint, true), (kbool, true)], T := Int × Int × Bool, fin := fun r => (r.1.1, r.1.2.1, r.1.2.2.1), inj := fun t => ((t.1, t.2.1, t.2.2, ()), ((), ())), pts := [], fuel := 400, dr := noDr }
noncomputable def i_LongestStairs (h0_Stairs : List Int) (h0_Doors : List Int) : Option (Int × Int × Bool) :=
  bif !i_IsHouse h0_Stairs h0_Doors then some (0, 0, false) else Option.bind (slices_Max_int h0_Stairs) fun r => some (slices_Index_int_n h0_Stairs r, r, true)
theorem i_LongestStairs_e (h0_Stairs : List Int) (h0_Doors : List Int) : c_i_LongestStairs.start c_i_LongestStairs.L ((h0_Stairs, h0_Doors), ()) = i_LongestStairs h0_Stairs h0_Doors := by kernel_rfl
noncomputable def F_i_LongestStairs : Ins c_i_LongestStairs.ins → Option (Int × Int × Bool) := fun x => i_LongestStairs x.1.1 x.1.2
noncomputable def S_i_LongestStairs : FSpec := mkF c_i_LongestStairs.env.pre c_i_LongestStairs.ins c_i_LongestStairs.out c_i_LongestStairs.inj F_i_LongestStairs
theorem h_i_LongestStairs : Cert Tryz.prog 10 S_i_LongestStairs := FnCx.certF (c := c_i_LongestStairs) F_i_LongestStairs (tyOk _ _ _) (spOk ⟨h_i_IsHouse, fun _ _ h => h, ⟨h_slices_Max_int, fun _ _ h => h, ⟨h_slices_Index_int, fun _ _ h => h, trivial⟩⟩⟩) (fun _ _ _ _ _ hs => noDr_ok) Tryz.func10 rfl rfl Tryz.ntmps10 (by kernel_rfl) rfl rfl (fun _ => rfl) trivial (fun x => .inl ⟨c_i_LongestStairs.start () x, fun _ => rfl⟩) (fun x t hb ht => by
  obtain ⟨⟨h0_Stairs, h0_Doors⟩, _⟩ := x
  exact (i_LongestStairs_e h0_Stairs h0_Doors).trans ht)
/-! spec.LongestStairs -/
noncomputable def c_s_LongestStairs : FnCx := { env := env 34 [(40, S_s_ldGood)] [], body := bodyOf Tryz.f11, res := [.tmp 2, .tmp 3, .tmp 4], ins := [.ro kHouse], out := [(kint, true), (kint, true), (kbool, true)], T := Int × Int × Bool, fin := fun r => (r.1.1, r.1.2.1, r.1.2.2.1), inj := fun t => ((t.1, t.2.1, t.2.2, ()), ((), ())), pts := [([.inLoop [1, 1, 1, 0, 1, 0, 0], .inBlock 0, .code [1, 1, 1, 1]], Shape.mk [Bs.box 26 [Cs.sl 1, Cs.sl 2], Bs.row kint 3 false, Bs.row kint 3 false] [(1, Ss.one (Cs.ptr 0 0)), (5, Ss.one (Cs.sc kint)), (12, Ss.one (Cs.sl 1)), (13, Ss.one (Cs.sc kint)), (14, Ss.one (Cs.sc kint))] [Ss.one (Cs.any)])], fuel := 400, dr := evDr (env 34 [(40, S_s_ldGood)] []) }
noncomputable def s_LongestStairs_t1 (g1 : List (Int) → List (Int) → Int → Int → Int → Option (Int × Int × Bool)) (r1 : List (Int)) (r2 : List (Int)) (best5 : Int) (s13 : Int) (s14 : Int) : Option (Int × Int × Bool) :=
  bif decide (s14 < s13) then
    bif decide (0 ≤ s14) then
      bif decide (s14 < (↑(List.length r1) : Int)) then
        bif decide (0 ≤ best5) then
          bif decide (best5 < (↑(List.length r1) : Int)) then
            bif decide (rdk kint r1 s14 > rdk kint r1 best5) then g1 r1 r2 s14 s13 (IntKind.wrap IntKind.i64 (s14 + 1))
            else g1 r1 r2 best5 s13 (IntKind.wrap IntKind.i64 (s14 + 1))
          else none
        else none
      else none
    else none
  else bif decide (0 ≤ best5) then bif decide (best5 < (↑(List.length r1) : Int)) then some (best5, rdk kint r1 best5, true) else none else none
noncomputable def s_LongestStairs_t0 (g1 : List (Int) → List (Int) → Int → Int → Int → Option (Int × Int × Bool)) (h0_Stairs : List Int) (h0_Doors : List Int) : Option (Int × Int × Bool) :=
  bif !s_ldGood h0_Stairs h0_Doors then some (0, 0, false) else g1 h0_Stairs h0_Doors 0 (↑(List.length h0_Stairs) : Int) 0
theorem s_LongestStairs_ts : Tails c_s_LongestStairs.pts c_s_LongestStairs.round :=
  ⟨fun s => by
    obtain ⟨⟨⟨_, _, _⟩, r1, r2, _⟩, ⟨_, best5, _, s13, s14, _⟩, ⟨_, _⟩⟩ := s
    refine Tail.eq (Y := fun g => s_LongestStairs_t1 (fun r1 r2 best5 s13 s14 => g.1 ((((), (), ()), r1, r2, ()), ((), best5, (), s13, s14, ()), ((), ()))) r1 r2 best5 s13 s14) ?_ (fun g => by kernel_rfl)
    simp only [s_LongestStairs_t1]; repeat (first | exact Tail.const _ | exact Tail.here _ | exact Tail.there (Tail.here _) | exact Tail.there (Tail.there (Tail.here _)) | exact Tail.there (Tail.there (Tail.there (Tail.here _))) | exact Tail.there (Tail.there (Tail.there (Tail.there (Tail.here _)))) | exact Tail.there (Tail.there (Tail.there (Tail.there (Tail.there (Tail.here _))))) | apply Tail.cond | (apply Tail.bind; intro _)), trivial⟩
theorem s_LongestStairs_hs : ∀ x, Tail c_s_LongestStairs.pts (fun g => c_s_LongestStairs.start g x) := fun x => by
    obtain ⟨⟨h0_Stairs, h0_Doors⟩, _⟩ := x
    refine Tail.eq (Y := fun g => s_LongestStairs_t0 (fun r1 r2 best5 s13 s14 => g.1 ((((), (), ()), r1, r2, ()), ((), best5, (), s13, s14, ()), ((), ()))) h0_Stairs h0_Doors) ?_ (fun g => by kernel_rfl)
    simp only [s_LongestStairs_t0]; repeat (first | exact Tail.const _ | exact Tail.here _ | exact Tail.there (Tail.here _) | exact Tail.there (Tail.there (Tail.here _)) | exact Tail.there (Tail.there (Tail.there (Tail.here _))) | exact Tail.there (Tail.there (Tail.there (Tail.there (Tail.here _)))) | exact Tail.there (Tail.there (Tail.there (Tail.there (Tail.there (Tail.here _))))) | apply Tail.cond | (apply Tail.bind; intro _))
noncomputable def s_LongestStairs_L1 (r1 : List (Int)) (r2 : List (Int)) (best5 : Int) (s13 : Int) (s14 : Int) : Option (Int × Int × Bool) := c_s_LongestStairs.L.1 ((((), (), ()), r1, r2, ()), ((), best5, (), s13, s14, ()), ((), ()))
theorem s_LongestStairs_u1 (r1 : List (Int)) (r2 : List (Int)) (best5 : Int) (s13 : Int) (s14 : Int) : s_LongestStairs_L1 r1 r2 best5 s13 s14 = s_LongestStairs_t1 s_LongestStairs_L1 r1 r2 best5 s13 s14 :=
  (congrArg (fun g => g.1 ((((), (), ()), r1, r2, ()), ((), best5, (), s13, s14, ()), ((), ()))) (FnCx.L_eq s_LongestStairs_ts)).trans (by kernel_rfl)
noncomputable def s_LongestStairs (h0_Stairs : List Int) (h0_Doors : List Int) : Option (Int × Int × Bool) := s_LongestStairs_t0 s_LongestStairs_L1 h0_Stairs h0_Doors
theorem s_LongestStairs_e (h0_Stairs : List Int) (h0_Doors : List Int) : c_s_LongestStairs.start c_s_LongestStairs.L ((h0_Stairs, h0_Doors), ()) = s_LongestStairs h0_Stairs h0_Doors := by kernel_rfl
noncomputable def F_s_LongestStairs : Ins c_s_LongestStairs.ins → Option (Int × Int × Bool) := fun x => s_LongestStairs x.1.1 x.1.2
noncomputable def S_s_LongestStairs : FSpec := mkF c_s_LongestStairs.env.pre c_s_LongestStairs.ins c_s_LongestStairs.out c_s_LongestStairs.inj F_s_LongestStairs
theorem h_s_LongestStairs : Cert Tryz.prog 11 S_s_LongestStairs := FnCx.certF (c := c_s_LongestStairs) F_s_LongestStairs (tyOk _ _ _) (spOk ⟨h_s_ldGood, fun _ _ h => h, trivial⟩) (fun _ _ _ _ _ hs => evDr_ok (tyOk _ _ _) hs follows) Tryz.func11 rfl rfl Tryz.ntmps11 (by kernel_rfl) rfl rfl (fun _ => rfl) s_LongestStairs_ts s_LongestStairs_hs (fun x t hb ht => by
  obtain ⟨⟨h0_Stairs, h0_Doors⟩, _⟩ := x
  exact (s_LongestStairs_e h0_Stairs h0_Doors).trans ht)
/-! impl.sum -/
noncomputable def c_i_sum : FnCx := { env := env 17 [] [], body := bodyOf Tryz.f41, res := [.tmp 2], ins := [.ro kSint], out := [(kint, true)], T := Int, fin := fun r => r.1.1, inj := fun t => ((t, ()), ((), ())), pts := [([.inLoop [1, 1, 0, 1, 0, 0], .inBlock 0, .code [1, 1, 1]], Shape.mk [Bs.row kint 3 false] [(3, Ss.one (Cs.sc kint)), (6, Ss.one (Cs.sl 0)), (7, Ss.one (Cs.sc kint)), (8, Ss.one (Cs.sc kint))] [Ss.one (Cs.any)])], fuel := 400, dr := noDr }
noncomputable def i_sum_t1 (g1 : List (Int) → Int → Int → Int → Option (Int)) (r0 : List (Int)) (n3 : Int) (s7 : Int) (s8 : Int) : Option Int :=
  bif decide (s8 < s7) then
    bif decide (0 ≤ s8) then
      bif decide (s8 < (↑(List.length r0) : Int)) then
        g1 r0 (IntKind.wrap IntKind.i64 (n3 + rdk kint r0 s8)) s7 (IntKind.wrap IntKind.i64 (s8 + 1))
      else none
    else none
  else some n3
noncomputable def i_sum_t0 (g1 : List (Int) → Int → Int → Int → Option (Int)) (l0 : List Int) : Option Int :=
  g1 l0 0 (↑(List.length l0) : Int) 0
theorem i_sum_ts : Tails c_i_sum.pts c_i_sum.round :=
  ⟨fun s => by
    obtain ⟨⟨r0, _⟩, ⟨n3, _, s7, s8, _⟩, ⟨_, _⟩⟩ := s
    refine Tail.eq (Y := fun g => i_sum_t1 (fun r0 n3 s7 s8 => g.1 ((r0, ()), (n3, (), s7, s8, ()), ((), ()))) r0 n3 s7 s8) ?_ (fun g => by kernel_rfl)
    simp only [i_sum_t1]; repeat (first | exact Tail.const _ | exact Tail.here _ | exact Tail.there (Tail.here _) | exact Tail.there (Tail.there (Tail.here _)) | exact Tail.there (Tail.there (Tail.there (Tail.here _))) | exact Tail.there (Tail.there (Tail.there (Tail.there (Tail.here _)))) | exact Tail.there (Tail.there (Tail.there (Tail.there (Tail.there (Tail.here _))))) | apply Tail.cond | (apply Tail.bind; intro _)), trivial⟩
theorem i_sum_hs : ∀ x, Tail c_i_sum.pts (fun g => c_i_sum.start g x) := fun x => by
    obtain ⟨l0, _⟩ := x
    refine Tail.eq (Y := fun g => i_sum_t0 (fun r0 n3 s7 s8 => g.1 ((r0, ()), (n3, (), s7, s8, ()), ((), ()))) l0) ?_ (fun g => by kernel_rfl)
    simp only [i_sum_t0]; repeat (first | exact Tail.const _ | exact Tail.here _ | exact Tail.there (Tail.here _) | exact Tail.there (Tail.there (Tail.here _)) | exact Tail.there (Tail.there (Tail.there (Tail.here _))) | exact Tail.there (Tail.there (Tail.there (Tail.there (Tail.here _)))) | exact Tail.there (Tail.there (Tail.there (Tail.there (Tail.there (Tail.here _))))) | apply Tail.cond | (apply Tail.bind; intro _))
noncomputable def i_sum_L1 (r0 : List (Int)) (n3 : Int) (s7 : Int) (s8 : Int) : Option Int := c_i_sum.L.1 ((r0, ()), (n3, (), s7, s8, ()), ((), ()))
theorem i_sum_u1 (r0 : List (Int)) (n3 : Int) (s7 : Int) (s8 : Int) : i_sum_L1 r0 n3 s7 s8 = i_sum_t1 i_sum_L1 r0 n3 s7 s8 :=
  (congrArg (fun g => g.1 ((r0, ()), (n3, (), s7, s8, ()), ((), ()))) (FnCx.L_eq i_sum_ts)).trans (by kernel_rfl)
noncomputable def i_sum (l0 : List Int) : Option Int := i_sum_t0 i_sum_L1 l0
theorem i_sum_e (l0 : List Int) : c_i_sum.start c_i_sum.L (l0, ()) = i_sum l0 := by kernel_rfl
noncomputable def F_i_sum : Ins c_i_sum.ins → Option Int := fun x => i_sum x.1
noncomputable def S_i_sum : FSpec := mkF c_i_sum.env.pre c_i_sum.ins c_i_sum.out c_i_sum.inj F_i_sum
theorem h_i_sum : Cert Tryz.prog 41 S_i_sum := FnCx.certF (c := c_i_sum) F_i_sum (tyOk _ _ _) (spOk trivial) (fun _ _ _ _ _ hs => noDr_ok) Tryz.func41 rfl rfl Tryz.ntmps41 (by kernel_rfl) rfl rfl (fun _ => rfl) i_sum_ts i_sum_hs (fun x t hb ht => by
  obtain ⟨l0, _⟩ := x
  exact (i_sum_e l0).trans ht)
/-! impl.DoorsInHouse -/
noncomputable def c_i_DoorsInHouse : FnCx := { env := env 10 [(20, S_i_IsHouse), (41, S_i_sum)] [], body := bodyOf Tryz.f12, res := [.tmp 2, .tmp 3], ins := [.ro kHouse], out := [(kint, true), (kbool, true)], T := Int × Bool, fin := fun r => (r.1.1, r.1.2.1), inj := fun t => ((t.1, t.2, ()), ((), ())), pts := [], fuel := 400, dr := noDr }
noncomputable def i_DoorsInHouse (h0_Stairs : List Int) (h0_Doors : List Int) : Option (Int × Bool) :=
  bif !i_IsHouse h0_Stairs h0_Doors then some (0, false) else Option.bind (i_sum h0_Doors) fun r => some (r, true)
theorem i_DoorsInHouse_e (h0_Stairs : List Int) (h0_Doors : List Int) : c_i_DoorsInHouse.start c_i_DoorsInHouse.L ((h0_Stairs, h0_Doors), ()) = i_DoorsInHouse h0_Stairs h0_Doors := by kernel_rfl
noncomputable def F_i_DoorsInHouse : Ins c_i_DoorsInHouse.ins → Option (Int × Bool) := fun x => i_DoorsInHouse x.1.1 x.1.2
noncomputable def S_i_DoorsInHouse : FSpec := mkF c_i_DoorsInHouse.env.pre c_i_DoorsInHouse.ins c_i_DoorsInHouse.out c_i_DoorsInHouse.inj F_i_DoorsInHouse
theorem h_i_DoorsInHouse : Cert Tryz.prog 12 S_i_DoorsInHouse := FnCx.certF (c := c_i_DoorsInHouse) F_i_DoorsInHouse (tyOk _ _ _) (spOk ⟨h_i_IsHouse, fun _ _ h => h, ⟨h_i_sum, fun _ _ h => h, trivial⟩⟩) (fun _ _ _ _ _ hs => noDr_ok) Tryz.func12 rfl rfl Tryz.ntmps12 (by kernel_rfl) rfl rfl (fun _ => rfl) trivial (fun x => .inl ⟨c_i_DoorsInHouse.start () x, fun _ => rfl⟩) (fun x t hb ht => by
  obtain ⟨⟨h0_Stairs, h0_Doors⟩, _⟩ := x
  exact (i_DoorsInHouse_e h0_Stairs h0_Doors).trans ht)
/-! spec.DoorsInHouse -/
noncomputable def c_s_DoorsInHouse : FnCx := { env := env 10 [(40, S_s_ldGood), (42, S_s_ldSum)] [], body := bodyOf Tryz.f13, res := [.tmp 2, .tmp 3], ins := [.ro kHouse], out := [(kint, true), (kbool, true)], T := Int × Bool, fin := fun r => (r.1.1, r.1.2.1), inj := fun t => ((t.1, t.2, ()), ((), ())), pts := [], fuel := 400, dr := noDr }
noncomputable def s_DoorsInHouse (h0_Stairs : List Int) (h0_Doors : List Int) : Option (Int × Bool) :=
  bif !s_ldGood h0_Stairs h0_Doors then some (0, false) else Option.bind (s_ldSum h0_Doors) fun r => some (r, true)
theorem s_DoorsInHouse_e (h0_Stairs : List Int) (h0_Doors : List Int) : c_s_DoorsInHouse.start c_s_DoorsInHouse.L ((h0_Stairs, h0_Doors), ()) = s_DoorsInHouse h0_Stairs h0_Doors := by kernel_rfl
noncomputable def F_s_DoorsInHouse : Ins c_s_DoorsInHouse.ins → Option (Int × Bool) := fun x => s_DoorsInHouse x.1.1 x.1.2
noncomputable def S_s_DoorsInHouse : FSpec := mkF c_s_DoorsInHouse.env.pre c_s_DoorsInHouse.ins c_s_DoorsInHouse.out c_s_DoorsInHouse.inj F_s_DoorsInHouse
theorem h_s_DoorsInHouse : Cert Tryz.prog 13 S_s_DoorsInHouse := FnCx.certF (c := c_s_DoorsInHouse) F_s_DoorsInHouse (tyOk _ _ _) (spOk ⟨h_s_ldGood, fun _ _ h => h, ⟨h_s_ldSum, fun _ _ h => h, trivial⟩⟩) (fun _ _ _ _ _ hs => noDr_ok) Tryz.func13 rfl rfl Tryz.ntmps13 (by kernel_rfl) rfl rfl (fun _ => rfl) trivial (fun x => .inl ⟨c_s_DoorsInHouse.start () x, fun _ => rfl⟩) (fun x t hb ht => by
  obtain ⟨⟨h0_Stairs, h0_Doors⟩, _⟩ := x
  exact (s_DoorsInHouse_e h0_Stairs h0_Doors).trans ht)
/-! strconv.Itoa -/
noncomputable def strconv_Itoa (n : Int) : Option ByteArray := itoaF n
noncomputable def F_strconv_Itoa : Ins [.ro kint] → Option ByteArray := fun x => strconv_Itoa x.1
noncomputable def S_strconv_Itoa : FSpec := mkF (T := ByteArray) textPre [.ro kint] [(.str, true)] (fun t => ((t, ()), ((), ()))) F_strconv_Itoa
theorem h_strconv_Itoa : Cert Tryz.prog 43 S_strconv_Itoa := itoa_cert litoa rfl ⟨_, Tryz.func43, rfl, by kernel_rfl⟩ (by simp [textL])
/-! impl.HouseText -/
noncomputable def c_i_HouseText : FnCx := { env := env 39 [(20, S_i_IsHouse), (43, S_strconv_Itoa)] [], body := bodyOf Tryz.f14, res := [.tmp 2, .tmp 3], ins := [.ro kHouse], out := [(kstring, true), (kbool, true)], T := ByteArray × Bool, fin := fun r => (r.1.1, r.1.2.1), inj := fun t => ((t.1, t.2, ()), ((), ())), pts := [([.inLoop [1, 1, 1, 0, 1, 0, 0], .inBlock 0, .code [1, 1, 1, 1]], Shape.mk [Bs.box 26 [Cs.sl 1, Cs.sl 2], Bs.row kint 3 false, Bs.row kint 3 false] [(1, Ss.one (Cs.ptr 0 0)), (4, Ss.one (Cs.sc kstring)), (16, Ss.one (Cs.sl 1)), (17, Ss.one (Cs.sc kint)), (18, Ss.one (Cs.sc kint))] [Ss.one (Cs.any)])], fuel := 400, dr := evDr (env 39 [(20, S_i_IsHouse), (43, S_strconv_Itoa)] []) }
noncomputable def i_HouseText_t1 (g1 : List (Int) → List (Int) → ByteArray → Int → Int → Option (ByteArray × Bool)) (r1 : List (Int)) (r2 : List (Int)) (out4 : ByteArray) (s17 : Int) (s18 : Int) : Option (ByteArray × Bool) :=
  bif decide (s18 < s17) then
    bif decide (0 ≤ s18) then
      bif decide (s18 < (↑(List.length r1) : Int)) then
        Option.bind (strconv_Itoa (rdk kint r1 s18)) fun r =>
          bif Nat.ble (ByteArray.size { data := #[94] } + ByteArray.size r) 9223372036854775807 then
            bif Nat.ble (ByteArray.size ({ data := #[94] } ++ r) + ByteArray.size { data := #[58] }) 9223372036854775807 then
              bif decide (0 ≤ IntKind.wrap IntKind.i64 (s18 + 1)) then
                bif decide (IntKind.wrap IntKind.i64 (s18 + 1) < (↑(List.length r2) : Int)) then
                  Option.bind (strconv_Itoa (rdk kint r2 (IntKind.wrap IntKind.i64 (s18 + 1)))) fun r_1 =>
                    bif Nat.ble (ByteArray.size ({ data := #[94] } ++ r ++ { data := #[58] }) + ByteArray.size r_1) 9223372036854775807 then
                      bif Nat.ble (ByteArray.size out4 + ByteArray.size ({ data := #[94] } ++ r ++ { data := #[58] } ++ r_1)) 9223372036854775807 then
                        g1 r1 r2 (out4 ++ ({ data := #[94] } ++ r ++ { data := #[58] } ++ r_1)) s17 (IntKind.wrap IntKind.i64 (s18 + 1))
                      else none
                    else none
                else none
              else none
            else none
          else none
      else none
    else none
  else some (out4, true)
noncomputable def i_HouseText_t0 (g1 : List (Int) → List (Int) → ByteArray → Int → Int → Option (ByteArray × Bool)) (h0_Stairs : List Int) (h0_Doors : List Int) : Option (ByteArray × Bool) :=
  bif !i_IsHouse h0_Stairs h0_Doors then some ({ data := #[] }, false)
  else
    bif decide (0 < (↑(List.length h0_Doors) : Int)) then
      Option.bind (strconv_Itoa (rdk kint h0_Doors 0)) fun r => g1 h0_Stairs h0_Doors r (↑(List.length h0_Stairs) : Int) 0
    else none
theorem i_HouseText_ts : Tails c_i_HouseText.pts c_i_HouseText.round :=
  ⟨fun s => by
    obtain ⟨⟨⟨_, _, _⟩, r1, r2, _⟩, ⟨_, out4, _, s17, s18, _⟩, ⟨_, _⟩⟩ := s
    refine Tail.eq (Y := fun g => i_HouseText_t1 (fun r1 r2 out4 s17 s18 => g.1 ((((), (), ()), r1, r2, ()), ((), out4, (), s17, s18, ()), ((), ()))) r1 r2 out4 s17 s18) ?_ (fun g => by kernel_rfl)
    simp only [i_HouseText_t1]; repeat (first | apply Tail.cond | (apply Tail.bind; intro _) | exact Tail.here _ | exact Tail.there (Tail.here _) | exact Tail.there (Tail.there (Tail.here _)) | exact Tail.there (Tail.there (Tail.there (Tail.here _))) | exact Tail.there (Tail.there (Tail.there (Tail.there (Tail.here _)))) | exact Tail.there (Tail.there (Tail.there (Tail.there (Tail.there (Tail.here _))))) | exact Tail.const _), trivial⟩
theorem i_HouseText_hs : ∀ x, Tail c_i_HouseText.pts (fun g => c_i_HouseText.start g x) := fun x => by
    obtain ⟨⟨h0_Stairs, h0_Doors⟩, _⟩ := x
    refine Tail.eq (Y := fun g => i_HouseText_t0 (fun r1 r2 out4 s17 s18 => g.1 ((((), (), ()), r1, r2, ()), ((), out4, (), s17, s18, ()), ((), ()))) h0_Stairs h0_Doors) ?_ (fun g => by kernel_rfl)
    simp only [i_HouseText_t0]; repeat (first | apply Tail.cond | (apply Tail.bind; intro _) | exact Tail.here _ | exact Tail.there (Tail.here _) | exact Tail.there (Tail.there (Tail.here _)) | exact Tail.there (Tail.there (Tail.there (Tail.here _))) | exact Tail.there (Tail.there (Tail.there (Tail.there (Tail.here _)))) | exact Tail.there (Tail.there (Tail.there (Tail.there (Tail.there (Tail.here _))))) | exact Tail.const _)
noncomputable def i_HouseText_L1 (r1 : List (Int)) (r2 : List (Int)) (out4 : ByteArray) (s17 : Int) (s18 : Int) : Option (ByteArray × Bool) := c_i_HouseText.L.1 ((((), (), ()), r1, r2, ()), ((), out4, (), s17, s18, ()), ((), ()))
theorem i_HouseText_u1 (r1 : List (Int)) (r2 : List (Int)) (out4 : ByteArray) (s17 : Int) (s18 : Int) : i_HouseText_L1 r1 r2 out4 s17 s18 = i_HouseText_t1 i_HouseText_L1 r1 r2 out4 s17 s18 :=
  (congrArg (fun g => g.1 ((((), (), ()), r1, r2, ()), ((), out4, (), s17, s18, ()), ((), ()))) (FnCx.L_eq i_HouseText_ts)).trans (by kernel_rfl)
noncomputable def i_HouseText (h0_Stairs : List Int) (h0_Doors : List Int) : Option (ByteArray × Bool) := i_HouseText_t0 i_HouseText_L1 h0_Stairs h0_Doors
theorem i_HouseText_e (h0_Stairs : List Int) (h0_Doors : List Int) : c_i_HouseText.start c_i_HouseText.L ((h0_Stairs, h0_Doors), ()) = i_HouseText h0_Stairs h0_Doors := by kernel_rfl
noncomputable def F_i_HouseText : Ins c_i_HouseText.ins → Option (ByteArray × Bool) := fun x => i_HouseText x.1.1 x.1.2
noncomputable def S_i_HouseText : FSpec := mkF c_i_HouseText.env.pre c_i_HouseText.ins c_i_HouseText.out c_i_HouseText.inj F_i_HouseText
theorem h_i_HouseText : Cert Tryz.prog 14 S_i_HouseText := FnCx.certF (c := c_i_HouseText) F_i_HouseText (tyOk _ _ _) (spOk ⟨h_i_IsHouse, fun _ _ h => h, ⟨h_strconv_Itoa, fun _ _ h => h, trivial⟩⟩) (fun _ _ _ _ _ hs => evDr_ok (tyOk _ _ _) hs follows) Tryz.func14 rfl rfl Tryz.ntmps14 (by kernel_rfl) rfl rfl (fun _ => rfl) i_HouseText_ts i_HouseText_hs (fun x t hb ht => by
  obtain ⟨⟨h0_Stairs, h0_Doors⟩, _⟩ := x
  exact (i_HouseText_e h0_Stairs h0_Doors).trans ht)
/-! spec.l1Num -/
noncomputable def SR_s_l1Num (RR : Int → Option (ByteArray)) : FSpec := mkF (T := ByteArray) textPre [.ro kint] [(kstring, true)] (fun t => ((t, ()), ((), ()))) (fun x => RR x.1)
noncomputable def c_s_l1Num (RR : Int → Option (ByteArray)) : FnCx := { env := env 20 [(63, SR_s_l1Num RR)] [], body := bodyOf Tryz.f63, res := [.tmp 2], ins := [.ro kint], out := [(kstring, true)], T := ByteArray, fin := fun r => r.1.1, inj := fun t => ((t, ()), ((), ())), pts := [], fuel := 400, dr := evDr (env 20 [(63, SR_s_l1Num RR)] []) }
noncomputable def s_l1Num (RR : Int → Option (ByteArray)) (n0 : Int) : Option ByteArray :=
  bif decide (n0 < 10) then
    some (List.foldl (fun r n => ByteArray.push r (UInt8.ofNat (Int.toNat n))) ByteArray.empty [IntKind.wrap IntKind.u8 (IntKind.wrap IntKind.i64 (48 + n0))])
  else
    Option.bind (RR (IntKind.wrap IntKind.i64 (Int.tdiv n0 10))) fun r =>
      bif
          Nat.ble
            (ByteArray.size r +
              ByteArray.size
                (List.foldl (fun r n => ByteArray.push r (UInt8.ofNat (Int.toNat n))) ByteArray.empty
                  [IntKind.wrap IntKind.u8 (IntKind.wrap IntKind.i64 (48 + Int.tmod n0 10))]))
            9223372036854775807 then
        some
          (r ++
            List.foldl (fun r n => ByteArray.push r (UInt8.ofNat (Int.toNat n))) ByteArray.empty
              [IntKind.wrap IntKind.u8 (IntKind.wrap IntKind.i64 (48 + Int.tmod n0 10))])
      else none
theorem s_l1Num_e (RR : Int → Option (ByteArray)) (n0 : Int) : (c_s_l1Num RR).start (c_s_l1Num RR).L (n0, ()) = (s_l1Num RR) n0 := by kernel_rfl
noncomputable def s_l1Num_it : Nat → Int → Option (ByteArray) := fun n => Nat.rec (fun _ => none) (fun _ RR => s_l1Num RR) n
theorem s_l1Num_is (n : Nat) (n0 : Int) : s_l1Num_it (n + 1) n0 = s_l1Num (s_l1Num_it n) n0 := rfl
theorem hh_s_l1Num : ∀ n, Cert Tryz.prog 63 (SR_s_l1Num (s_l1Num_it n))
  | 0 => cert_none Tryz.func63 rfl (by kernel_rfl) rfl rfl
  | n + 1 => FnCx.certF (c := c_s_l1Num (s_l1Num_it n)) (fun x => s_l1Num_it (n + 1) x.1) (tyOk _ _ _) (spOk ⟨hh_s_l1Num n, fun _ _ h => h, trivial⟩) (fun _ _ _ _ _ hs => evDr_ok (tyOk _ _ _) hs follows) Tryz.func63 rfl rfl Tryz.ntmps63 (by kernel_rfl) rfl rfl (fun _ => rfl) trivial (fun x => .inl ⟨(c_s_l1Num (s_l1Num_it n)).start () x, fun _ => rfl⟩) (fun x t hb ht => by
    obtain ⟨n0, _⟩ := x
    exact (s_l1Num_e (s_l1Num_it n) n0).trans ht)
-- NICE rec
theorem wrapU8 {n : Int} (h1 : 0 ≤ n) (h2 : n ≤ 255) : IntKind.wrap .u8 n = n := by
  unfold IntKind.wrap
  simp [IntKind.signed, IntKind.bits]
  omega
theorem bytes_app (a b : List UInt8) : (⟨a.toArray⟩ : ByteArray) ++ ⟨b.toArray⟩ = ⟨(a ++ b).toArray⟩ := ByteArray.ext (by rw [ByteArray.data_append]; simp)
theorem dec_len : ∀ u : Nat, (Lib.decDigits u).length ≤ u + 1 := by
  intro u
  induction u using Nat.strongRecOn with
  | ind u ih =>
    rw [Lib.decDigits]
    by_cases h : u < 10
    · rw [dif_pos h]; simp
    · rw [dif_neg h]
      have := ih (u / 10) (by omega)
      rw [List.length_append, List.length_singleton]; omega
theorem itoa_nat (n : Nat) : Lib.itoa (n : Int) = Lib.decDigits n := by
  unfold Lib.itoa
  rw [if_neg (by omega), Int.toNat_natCast]
theorem digit_eq {m : Nat} (h : m < 10) : List.foldl (fun r n => ByteArray.push r (UInt8.ofNat (Int.toNat n))) ByteArray.empty [IntKind.wrap .u8 (IntKind.wrap .i64 (48 + (m : Int)))] = ⟨([UInt8.ofNat (48 + m)] : List UInt8).toArray⟩ := by
  rw [wrapI (n := 48 + (m : Int)) (by omega) (by omega), wrapU8 (by omega) (by omega), show (48 + (m : Int)) = ((48 + m : Nat) : Int) by omega]
  simp only [List.foldl_cons, List.foldl_nil, Int.toNat_natCast]
  rfl
theorem num_it : ∀ (k n : Nat), n < k → n ≤ 4000000000000000000 → s_l1Num_it k (n : Int) = some ⟨(Lib.decDigits n).toArray⟩
  | 0, n, h, _ => by omega
  | k + 1, n, h, hn => by
    rw [s_l1Num_is, s_l1Num]
    by_cases h10 : n < 10
    · rw [decide_eq_true (show (n : Int) < 10 by omega), cond_true, digit_eq h10, Lib.decDigits, dif_pos h10]
    · have hm : Int.tmod (n : Int) 10 = ((n % 10 : Nat) : Int) := by rw [Int.tmod_eq_emod_of_nonneg (by omega)]; rfl
      have hd : Int.tdiv (n : Int) 10 = ((n / 10 : Nat) : Int) := by rw [Int.tdiv_eq_ediv_of_nonneg (by omega)]; rfl
      have ih := num_it k (n / 10) (by omega) (by omega)
      have hl := dec_len (n / 10)
      rw [decide_eq_false (show ¬ (n : Int) < 10 by omega), cond_false, hd, hm, wrapI (n := ((n / 10 : Nat) : Int)) (by omega) (by omega), ih, Option.bind_some, digit_eq (Nat.mod_lt n (by omega)), ble_dec, decide_eq_true, cond_true, bytes_app, Lib.decDigits.eq_def n, dif_neg h10]
      show (Lib.decDigits (n / 10)).toArray.size + 1 ≤ _
      simp; omega
noncomputable def s_l1Num_n (n : Int) : Option ByteArray := bif decide (0 ≤ n) && decide (n ≤ 4000000000000000000) then some ⟨(Lib.itoa n).toArray⟩ else none
theorem s_l1Num_ok (n : Int) (t : ByteArray) (h : s_l1Num_n n = some t) : ∃ k, s_l1Num_it k n = some t := by
  unfold s_l1Num_n at h
  cases hc : decide (0 ≤ n) && decide (n ≤ 4000000000000000000)
  · rw [hc] at h; cases h
  · rw [hc, cond_true] at h
    cases h
    rw [Bool.and_eq_true, decide_eq_true_eq, decide_eq_true_eq] at hc
    obtain ⟨m, rfl⟩ := Int.eq_ofNat_of_zero_le hc.1
    exact ⟨m + 1, by rw [num_it (m + 1) m (by omega) (by omega), itoa_nat]⟩
noncomputable def F_s_l1Num : Ins [.ro kint] → Option ByteArray := fun x => s_l1Num_n x.1
noncomputable def S_s_l1Num : FSpec := mkF (T := ByteArray) textPre [.ro kint] [(kstring, true)] (fun t => ((t, ()), ((), ()))) F_s_l1Num
theorem h_s_l1Num : Cert Tryz.prog 63 S_s_l1Num := cert_lim hh_s_l1Num (fun x t hb ht => by
  obtain ⟨n0, _⟩ := x
  exact s_l1Num_ok n0 t ht)
/-! spec.ldText -/
noncomputable def c_s_ldText : FnCx := { env := env 35 [(63, S_s_l1Num)] [], body := bodyOf Tryz.f44, res := [.tmp 2], ins := [.ro kHouse], out := [(kstring, true)], T := ByteArray, fin := fun r => r.1.1, inj := fun t => ((t, ()), ((), ())), pts := [([.inLoop [1, 1, 0, 1, 0, 0], .inBlock 0, .code [1, 1, 1]], Shape.mk [Bs.box 26 [Cs.sl 1, Cs.sl 2], Bs.row kint 3 false, Bs.row kint 3 false] [(1, Ss.one (Cs.ptr 0 0)), (3, Ss.one (Cs.sc kstring)), (12, Ss.one (Cs.sl 1)), (13, Ss.one (Cs.sc kint)), (14, Ss.one (Cs.sc kint))] [Ss.one (Cs.any)])], fuel := 400, dr := evDr (env 35 [(63, S_s_l1Num)] []) }
noncomputable def s_ldText_t1 (g1 : List (Int) → List (Int) → ByteArray → Int → Int → Option (ByteArray)) (r1 : List (Int)) (r2 : List (Int)) (out3 : ByteArray) (s13 : Int) (s14 : Int) : Option ByteArray :=
  bif decide (s14 < s13) then
    bif decide (0 ≤ s14) then
      bif decide (s14 < (↑(List.length r1) : Int)) then
        Option.bind (s_l1Num_n (rdk kint r1 s14)) fun r =>
          bif Nat.ble (ByteArray.size { data := #[94] } + ByteArray.size r) 9223372036854775807 then
            bif Nat.ble (ByteArray.size ({ data := #[94] } ++ r) + ByteArray.size { data := #[58] }) 9223372036854775807 then
              bif decide (0 ≤ IntKind.wrap IntKind.i64 (s14 + 1)) then
                bif decide (IntKind.wrap IntKind.i64 (s14 + 1) < (↑(List.length r2) : Int)) then
                  Option.bind (s_l1Num_n (rdk kint r2 (IntKind.wrap IntKind.i64 (s14 + 1)))) fun r_1 =>
                    bif Nat.ble (ByteArray.size ({ data := #[94] } ++ r ++ { data := #[58] }) + ByteArray.size r_1) 9223372036854775807 then
                      bif Nat.ble (ByteArray.size out3 + ByteArray.size ({ data := #[94] } ++ r ++ { data := #[58] } ++ r_1)) 9223372036854775807 then
                        g1 r1 r2 (out3 ++ ({ data := #[94] } ++ r ++ { data := #[58] } ++ r_1)) s13 (IntKind.wrap IntKind.i64 (s14 + 1))
                      else none
                    else none
                else none
              else none
            else none
          else none
      else none
    else none
  else some out3
noncomputable def s_ldText_t0 (g1 : List (Int) → List (Int) → ByteArray → Int → Int → Option (ByteArray)) (h0_Stairs : List Int) (h0_Doors : List Int) : Option ByteArray :=
  bif decide (0 < (↑(List.length h0_Doors) : Int)) then
    Option.bind (s_l1Num_n (rdk kint h0_Doors 0)) fun r => g1 h0_Stairs h0_Doors r (↑(List.length h0_Stairs) : Int) 0
  else none
theorem s_ldText_ts : Tails c_s_ldText.pts c_s_ldText.round :=
  ⟨fun s => by
    obtain ⟨⟨⟨_, _, _⟩, r1, r2, _⟩, ⟨_, out3, _, s13, s14, _⟩, ⟨_, _⟩⟩ := s
    refine Tail.eq (Y := fun g => s_ldText_t1 (fun r1 r2 out3 s13 s14 => g.1 ((((), (), ()), r1, r2, ()), ((), out3, (), s13, s14, ()), ((), ()))) r1 r2 out3 s13 s14) ?_ (fun g => by kernel_rfl)
    simp only [s_ldText_t1]; repeat (first | apply Tail.cond | (apply Tail.bind; intro _) | exact Tail.here _ | exact Tail.there (Tail.here _) | exact Tail.there (Tail.there (Tail.here _)) | exact Tail.there (Tail.there (Tail.there (Tail.here _))) | exact Tail.there (Tail.there (Tail.there (Tail.there (Tail.here _)))) | exact Tail.there (Tail.there (Tail.there (Tail.there (Tail.there (Tail.here _))))) | exact Tail.const _), trivial⟩
theorem s_ldText_hs : ∀ x, Tail c_s_ldText.pts (fun g => c_s_ldText.start g x) := fun x => by
    obtain ⟨⟨h0_Stairs, h0_Doors⟩, _⟩ := x
    refine Tail.eq (Y := fun g => s_ldText_t0 (fun r1 r2 out3 s13 s14 => g.1 ((((), (), ()), r1, r2, ()), ((), out3, (), s13, s14, ()), ((), ()))) h0_Stairs h0_Doors) ?_ (fun g => by kernel_rfl)
    simp only [s_ldText_t0]; repeat (first | apply Tail.cond | (apply Tail.bind; intro _) | exact Tail.here _ | exact Tail.there (Tail.here _) | exact Tail.there (Tail.there (Tail.here _)) | exact Tail.there (Tail.there (Tail.there (Tail.here _))) | exact Tail.there (Tail.there (Tail.there (Tail.there (Tail.here _)))) | exact Tail.there (Tail.there (Tail.there (Tail.there (Tail.there (Tail.here _))))) | exact Tail.const _)
noncomputable def s_ldText_L1 (r1 : List (Int)) (r2 : List (Int)) (out3 : ByteArray) (s13 : Int) (s14 : Int) : Option ByteArray := c_s_ldText.L.1 ((((), (), ()), r1, r2, ()), ((), out3, (), s13, s14, ()), ((), ()))
theorem s_ldText_u1 (r1 : List (Int)) (r2 : List (Int)) (out3 : ByteArray) (s13 : Int) (s14 : Int) : s_ldText_L1 r1 r2 out3 s13 s14 = s_ldText_t1 s_ldText_L1 r1 r2 out3 s13 s14 :=
  (congrArg (fun g => g.1 ((((), (), ()), r1, r2, ()), ((), out3, (), s13, s14, ()), ((), ()))) (FnCx.L_eq s_ldText_ts)).trans (by kernel_rfl)
noncomputable def s_ldText (h0_Stairs : List Int) (h0_Doors : List Int) : Option ByteArray := s_ldText_t0 s_ldText_L1 h0_Stairs h0_Doors
theorem s_ldText_e (h0_Stairs : List Int) (h0_Doors : List Int) : c_s_ldText.start c_s_ldText.L ((h0_Stairs, h0_Doors), ()) = s_ldText h0_Stairs h0_Doors := by kernel_rfl
noncomputable def F_s_ldText : Ins c_s_ldText.ins → Option ByteArray := fun x => s_ldText x.1.1 x.1.2
noncomputable def S_s_ldText : FSpec := mkF c_s_ldText.env.pre c_s_ldText.ins c_s_ldText.out c_s_ldText.inj F_s_ldText
theorem h_s_ldText : Cert Tryz.prog 44 S_s_ldText := FnCx.certF (c := c_s_ldText) F_s_ldText (tyOk _ _ _) (spOk ⟨h_s_l1Num, fun _ _ h => h, trivial⟩) (fun _ _ _ _ _ hs => evDr_ok (tyOk _ _ _) hs follows) Tryz.func44 rfl rfl Tryz.ntmps44 (by kernel_rfl) rfl rfl (fun _ => rfl) s_ldText_ts s_ldText_hs (fun x t hb ht => by
  obtain ⟨⟨h0_Stairs, h0_Doors⟩, _⟩ := x
  exact (s_ldText_e h0_Stairs h0_Doors).trans ht)
/-! spec.HouseText -/
noncomputable def c_s_HouseText : FnCx := { env := env 9 [(40, S_s_ldGood), (44, S_s_ldText)] [], body := bodyOf Tryz.f15, res := [.tmp 2, .tmp 3], ins := [.ro kHouse], out := [(kstring, true), (kbool, true)], T := ByteArray × Bool, fin := fun r => (r.1.1, r.1.2.1), inj := fun t => ((t.1, t.2, ()), ((), ())), pts := [], fuel := 400, dr := noDr }
noncomputable def s_HouseText (h0_Stairs : List Int) (h0_Doors : List Int) : Option (ByteArray × Bool) :=
  bif !s_ldGood h0_Stairs h0_Doors then some ({ data := #[] }, false) else Option.bind (s_ldText h0_Stairs h0_Doors) fun r => some (r, true)
theorem s_HouseText_e (h0_Stairs : List Int) (h0_Doors : List Int) : c_s_HouseText.start c_s_HouseText.L ((h0_Stairs, h0_Doors), ()) = s_HouseText h0_Stairs h0_Doors := by kernel_rfl
noncomputable def F_s_HouseText : Ins c_s_HouseText.ins → Option (ByteArray × Bool) := fun x => s_HouseText x.1.1 x.1.2
noncomputable def S_s_HouseText : FSpec := mkF c_s_HouseText.env.pre c_s_HouseText.ins c_s_HouseText.out c_s_HouseText.inj F_s_HouseText
theorem h_s_HouseText : Cert Tryz.prog 15 S_s_HouseText := FnCx.certF (c := c_s_HouseText) F_s_HouseText (tyOk _ _ _) (spOk ⟨h_s_ldGood, fun _ _ h => h, ⟨h_s_ldText, fun _ _ h => h, trivial⟩⟩) (fun _ _ _ _ _ hs => noDr_ok) Tryz.func15 rfl rfl Tryz.ntmps15 (by kernel_rfl) rfl rfl (fun _ => rfl) trivial (fun x => .inl ⟨c_s_HouseText.start () x, fun _ => rfl⟩) (fun x t hb ht => by
  obtain ⟨⟨h0_Stairs, h0_Doors⟩, _⟩ := x
  exact (s_HouseText_e h0_Stairs h0_Doors).trans ht)
/-! slices.Clone[[]int,int] -/
noncomputable def c_slices_Clone_int : FnCx := { env := env 8 [] [], body := bodyOf Tryz.f45, res := [.tmp 2], ins := [.ro kSint], out := [(kSint, true)], T := List Int, fin := fun r => r.1.1, inj := fun t => ((t, ()), ((), ())), pts := [], fuel := 400, dr := noDr }
noncomputable def slices_Clone_int (s0 : List Int) : Option (List Int) :=
  bif decide (0 < (↑(List.length s0) : Int)) then bif Nat.ble (0 + List.length s0) 4294967296 then some ([] ++ s0) else none
  else both (some []) (bif Nat.ble (0 + List.length s0) 4294967296 then some ([] ++ s0) else none)
theorem slices_Clone_int_e (s0 : List Int) : c_slices_Clone_int.start c_slices_Clone_int.L (s0, ()) = slices_Clone_int s0 := by kernel_rfl
-- NICE opt
noncomputable def slices_Clone_int_n (s : List Int) : Option (List Int) := bif decide (s.length ≤ 4294967296) then some s else none
theorem slices_Clone_int_ok (s : List Int) (hb : BdI c_slices_Clone_int.ins (s, ())) (t : List Int) (ht : slices_Clone_int_n s = some t) : slices_Clone_int s = some t := by
  unfold slices_Clone_int_n at ht
  cases h : decide (s.length ≤ 4294967296)
  · rw [h] at ht; cases ht
  · rw [h] at ht; cases ht
    have h := of_decide_eq_true h
    unfold slices_Clone_int
    cases s with
    | nil => simp [ble_dec, both_same]
    | cons x l =>
      have h' : l.length + 1 ≤ 4294967296 := h
      have h2 : (0 : Int) < l.length + 1 := by omega
      simp [ble_dec, h', h2]
noncomputable def F_slices_Clone_int : Ins c_slices_Clone_int.ins → Option (List Int) := fun x => slices_Clone_int_n x.1
noncomputable def S_slices_Clone_int : FSpec := mkF c_slices_Clone_int.env.pre c_slices_Clone_int.ins c_slices_Clone_int.out c_slices_Clone_int.inj F_slices_Clone_int
theorem h_slices_Clone_int : Cert Tryz.prog 45 S_slices_Clone_int := FnCx.certF (c := c_slices_Clone_int) F_slices_Clone_int (tyOk _ _ _) (spOk trivial) (fun _ _ _ _ _ hs => noDr_ok) Tryz.func45 rfl rfl Tryz.ntmps45 (by kernel_rfl) rfl rfl (fun _ => rfl) trivial (fun x => .inl ⟨c_slices_Clone_int.start () x, fun _ => rfl⟩) (fun x t hb ht => by
  obtain ⟨s0, _⟩ := x
  exact (slices_Clone_int_e s0).trans (slices_Clone_int_ok s0 hb t ht))
/-! impl.DropFloor -/
noncomputable def c_i_DropFloor : FnCx := { env := env 28 [(20, S_i_IsHouse), (45, S_slices_Clone_int)] [], body := bodyOf Tryz.f16, res := [.cell 2 26, .tmp 3], ins := [.ro kHouse], out := [(kHouse, true), (kbool, true)], T := (List Int × List Int) × Bool, fin := fun r => (r.1.1, r.1.2.1), inj := fun t => ((t.1, t.2, ()), ((), ())), pts := [], fuel := 400, dr := evDr (env 28 [(20, S_i_IsHouse), (45, S_slices_Clone_int)] []) }
noncomputable def i_DropFloor (h0_Stairs : List Int) (h0_Doors : List Int) : Option ((List Int × List Int) × Bool) :=
  bif !i_IsHouse h0_Stairs h0_Doors then some (([], []), false)
  else
    bif (↑(List.length h0_Stairs) : Int) == 1 then some (([], []), false)
    else
      bif decide (0 ≤ IntKind.wrap IntKind.i64 ((↑(List.length h0_Stairs) : Int) - 1)) then
        bif decide (IntKind.wrap IntKind.i64 ((↑(List.length h0_Stairs) : Int) - 1) ≤ (↑(List.length h0_Stairs) : Int)) then
          Option.bind
            (slices_Clone_int_n
              (List.take (Int.toNat (IntKind.wrap IntKind.i64 ((↑(List.length h0_Stairs) : Int) - 1)) - Int.toNat 0) (List.drop (Int.toNat 0) h0_Stairs)))
            fun r =>
            bif decide ((↑(List.length h0_Stairs) : Int) ≤ (↑(List.length h0_Doors) : Int)) then
              Option.bind (slices_Clone_int_n (List.take (Int.toNat (↑(List.length h0_Stairs) : Int) - Int.toNat 0) (List.drop (Int.toNat 0) h0_Doors)))
                fun r_1 => some ((r, r_1), true)
            else none
        else none
      else none
theorem i_DropFloor_e (h0_Stairs : List Int) (h0_Doors : List Int) : c_i_DropFloor.start c_i_DropFloor.L ((h0_Stairs, h0_Doors), ()) = i_DropFloor h0_Stairs h0_Doors := by kernel_rfl
noncomputable def F_i_DropFloor : Ins c_i_DropFloor.ins → Option ((List Int × List Int) × Bool) := fun x => i_DropFloor x.1.1 x.1.2
noncomputable def S_i_DropFloor : FSpec := mkF c_i_DropFloor.env.pre c_i_DropFloor.ins c_i_DropFloor.out c_i_DropFloor.inj F_i_DropFloor
theorem h_i_DropFloor : Cert Tryz.prog 16 S_i_DropFloor := FnCx.certF (c := c_i_DropFloor) F_i_DropFloor (tyOk _ _ _) (spOk ⟨h_i_IsHouse, fun _ _ h => h, ⟨h_slices_Clone_int, fun _ _ h => h, trivial⟩⟩) (fun _ _ _ _ _ hs => evDr_ok (tyOk _ _ _) hs follows) Tryz.func16 rfl rfl Tryz.ntmps16 (by kernel_rfl) rfl rfl (fun _ => rfl) trivial (fun x => .inl ⟨c_i_DropFloor.start () x, fun _ => rfl⟩) (fun x t hb ht => by
  obtain ⟨⟨h0_Stairs, h0_Doors⟩, _⟩ := x
  exact (i_DropFloor_e h0_Stairs h0_Doors).trans ht)
/-! spec.l1Own -/
noncomputable def c_s_l1Own : FnCx := { env := env 6 [] [], body := bodyOf Tryz.f46, res := [.tmp 2], ins := [.ro kSint], out := [(kSint, true)], T := List Int, fin := fun r => r.1.1, inj := fun t => ((t, ()), ((), ())), pts := [], fuel := 400, dr := noDr }
noncomputable def s_l1Own (l0 : List Int) : Option (List Int) :=
  bif Nat.ble (0 + List.length l0) 4294967296 then some ([] ++ l0) else none
theorem s_l1Own_e (l0 : List Int) : c_s_l1Own.start c_s_l1Own.L (l0, ()) = s_l1Own l0 := by kernel_rfl
-- NICE opt
noncomputable def s_l1Own_n (s : List Int) : Option (List Int) := bif decide (s.length ≤ 4294967296) then some s else none
theorem s_l1Own_ok (s : List Int) (hb : BdI c_s_l1Own.ins (s, ())) (t : List Int) (ht : s_l1Own_n s = some t) : s_l1Own s = some t := by
  unfold s_l1Own_n at ht
  cases h : decide (s.length ≤ 4294967296)
  · rw [h] at ht; cases ht
  · rw [h] at ht; cases ht
    have h := of_decide_eq_true h
    unfold s_l1Own
    simp [ble_dec, h]
noncomputable def F_s_l1Own : Ins c_s_l1Own.ins → Option (List Int) := fun x => s_l1Own_n x.1
noncomputable def S_s_l1Own : FSpec := mkF c_s_l1Own.env.pre c_s_l1Own.ins c_s_l1Own.out c_s_l1Own.inj F_s_l1Own
theorem h_s_l1Own : Cert Tryz.prog 46 S_s_l1Own := FnCx.certF (c := c_s_l1Own) F_s_l1Own (tyOk _ _ _) (spOk trivial) (fun _ _ _ _ _ hs => noDr_ok) Tryz.func46 rfl rfl Tryz.ntmps46 (by kernel_rfl) rfl rfl (fun _ => rfl) trivial (fun x => .inl ⟨c_s_l1Own.start () x, fun _ => rfl⟩) (fun x t hb ht => by
  obtain ⟨l0, _⟩ := x
  exact (s_l1Own_e l0).trans (s_l1Own_ok l0 hb t ht))
/-! spec.DropFloor -/
noncomputable def c_s_DropFloor : FnCx := { env := env 30 [(40, S_s_ldGood), (46, S_s_l1Own)] [], body := bodyOf Tryz.f17, res := [.cell 2 26, .tmp 3], ins := [.ro kHouse], out := [(kHouse, true), (kbool, true)], T := (List Int × List Int) × Bool, fin := fun r => (r.1.1, r.1.2.1), inj := fun t => ((t.1, t.2, ()), ((), ())), pts := [], fuel := 400, dr := evDr (env 30 [(40, S_s_ldGood), (46, S_s_l1Own)] []) }
noncomputable def s_DropFloor (h0_Stairs : List Int) (h0_Doors : List Int) : Option ((List Int × List Int) × Bool) :=
  bif !s_ldGood h0_Stairs h0_Doors then some (([], []), false)
  else
    bif (↑(List.length h0_Stairs) : Int) == 1 then some (([], []), false)
    else
      bif decide (0 ≤ IntKind.wrap IntKind.i64 ((↑(List.length h0_Stairs) : Int) - 1)) then
        bif decide (IntKind.wrap IntKind.i64 ((↑(List.length h0_Stairs) : Int) - 1) ≤ (↑(List.length h0_Stairs) : Int)) then
          Option.bind
            (s_l1Own_n
              (List.take (Int.toNat (IntKind.wrap IntKind.i64 ((↑(List.length h0_Stairs) : Int) - 1)) - Int.toNat 0) (List.drop (Int.toNat 0) h0_Stairs)))
            fun r =>
            bif decide ((↑(List.length h0_Stairs) : Int) ≤ (↑(List.length h0_Doors) : Int)) then
              Option.bind (s_l1Own_n (List.take (Int.toNat (↑(List.length h0_Stairs) : Int) - Int.toNat 0) (List.drop (Int.toNat 0) h0_Doors))) fun r_1 =>
                some ((r, r_1), true)
            else none
        else none
      else none
theorem s_DropFloor_e (h0_Stairs : List Int) (h0_Doors : List Int) : c_s_DropFloor.start c_s_DropFloor.L ((h0_Stairs, h0_Doors), ()) = s_DropFloor h0_Stairs h0_Doors := by kernel_rfl
noncomputable def F_s_DropFloor : Ins c_s_DropFloor.ins → Option ((List Int × List Int) × Bool) := fun x => s_DropFloor x.1.1 x.1.2
noncomputable def S_s_DropFloor : FSpec := mkF c_s_DropFloor.env.pre c_s_DropFloor.ins c_s_DropFloor.out c_s_DropFloor.inj F_s_DropFloor
theorem h_s_DropFloor : Cert Tryz.prog 17 S_s_DropFloor := FnCx.certF (c := c_s_DropFloor) F_s_DropFloor (tyOk _ _ _) (spOk ⟨h_s_ldGood, fun _ _ h => h, ⟨h_s_l1Own, fun _ _ h => h, trivial⟩⟩) (fun _ _ _ _ _ hs => evDr_ok (tyOk _ _ _) hs follows) Tryz.func17 rfl rfl Tryz.ntmps17 (by kernel_rfl) rfl rfl (fun _ => rfl) trivial (fun x => .inl ⟨c_s_DropFloor.start () x, fun _ => rfl⟩) (fun x t hb ht => by
  obtain ⟨⟨h0_Stairs, h0_Doors⟩, _⟩ := x
  exact (s_DropFloor_e h0_Stairs h0_Doors).trans ht)
/-! impl.AddFloor -/
noncomputable def c_i_AddFloor : FnCx := { env := env 41 [(20, S_i_IsHouse), (35, S_i_within), (45, S_slices_Clone_int)] [], body := bodyOf Tryz.f26, res := [.cell 6 26, .tmp 7], ins := [.ro kHouse, .ro kint, .ro kint], out := [(kHouse, true), (kbool, true)], T := (List Int × List Int) × Bool, fin := fun r => (r.1.1, r.1.2.1), inj := fun t => ((t.1, t.2, ()), ((), (), (), ())), pts := [], fuel := 400, dr := evDr (env 41 [(20, S_i_IsHouse), (35, S_i_within), (45, S_slices_Clone_int)] []) }
noncomputable def i_AddFloor (h0_Stairs : List Int) (h0_Doors : List Int) (steps1 : Int) (doors2 : Int) : Option ((List Int × List Int) × Bool) :=
  bif !i_IsHouse h0_Stairs h0_Doors then some (([], []), false)
  else
    bif !i_within steps1 1 40 then some (([], []), false)
    else
      bif !i_within doors2 0 20 then some (([], []), false)
      else
        bif (↑(List.length h0_Doors) : Int) == 12 then some (([], []), false)
        else
          Option.bind (slices_Clone_int_n h0_Stairs) fun r =>
            bif Nat.ble (List.length r + 1) 4294967296 then
              Option.bind (slices_Clone_int_n h0_Doors) fun r_1 =>
                bif Nat.ble (List.length r_1 + 1) 4294967296 then some ((r ++ [steps1], r_1 ++ [doors2]), true) else none
            else none
theorem i_AddFloor_e (h0_Stairs : List Int) (h0_Doors : List Int) (steps1 : Int) (doors2 : Int) : c_i_AddFloor.start c_i_AddFloor.L ((h0_Stairs, h0_Doors), steps1, doors2, ()) = i_AddFloor h0_Stairs h0_Doors steps1 doors2 := by kernel_rfl
noncomputable def F_i_AddFloor : Ins c_i_AddFloor.ins → Option ((List Int × List Int) × Bool) := fun x => i_AddFloor x.1.1 x.1.2 x.2.1 x.2.2.1
noncomputable def S_i_AddFloor : FSpec := mkF c_i_AddFloor.env.pre c_i_AddFloor.ins c_i_AddFloor.out c_i_AddFloor.inj F_i_AddFloor
theorem h_i_AddFloor : Cert Tryz.prog 26 S_i_AddFloor := FnCx.certF (c := c_i_AddFloor) F_i_AddFloor (tyOk _ _ _) (spOk ⟨h_i_IsHouse, fun _ _ h => h, ⟨h_i_within, fun _ _ h => h, ⟨h_slices_Clone_int, fun _ _ h => h, trivial⟩⟩⟩) (fun _ _ _ _ _ hs => evDr_ok (tyOk _ _ _) hs follows) Tryz.func26 rfl rfl Tryz.ntmps26 (by kernel_rfl) rfl rfl (fun _ => rfl) trivial (fun x => .inl ⟨c_i_AddFloor.start () x, fun _ => rfl⟩) (fun x t hb ht => by
  obtain ⟨⟨h0_Stairs, h0_Doors⟩, steps1, doors2, _⟩ := x
  exact (i_AddFloor_e h0_Stairs h0_Doors steps1 doors2).trans ht)
/-! spec.AddFloor -/
noncomputable def c_s_AddFloor : FnCx := { env := env 41 [(40, S_s_ldGood), (55, S_s_l1In), (46, S_s_l1Own)] [], body := bodyOf Tryz.f28, res := [.cell 6 26, .tmp 7], ins := [.ro kHouse, .ro kint, .ro kint], out := [(kHouse, true), (kbool, true)], T := (List Int × List Int) × Bool, fin := fun r => (r.1.1, r.1.2.1), inj := fun t => ((t.1, t.2, ()), ((), (), (), ())), pts := [], fuel := 400, dr := evDr (env 41 [(40, S_s_ldGood), (55, S_s_l1In), (46, S_s_l1Own)] []) }
noncomputable def s_AddFloor (h0_Stairs : List Int) (h0_Doors : List Int) (steps1 : Int) (doors2 : Int) : Option ((List Int × List Int) × Bool) :=
  bif !s_ldGood h0_Stairs h0_Doors then some (([], []), false)
  else
    bif (↑(List.length h0_Doors) : Int) == 12 then some (([], []), false)
    else
      bif !s_l1In steps1 1 40 then some (([], []), false)
      else
        bif !s_l1In doors2 0 20 then some (([], []), false)
        else
          Option.bind (s_l1Own_n h0_Stairs) fun r =>
            bif Nat.ble (List.length r + 1) 4294967296 then
              Option.bind (s_l1Own_n h0_Doors) fun r_1 =>
                bif Nat.ble (List.length r_1 + 1) 4294967296 then some ((r ++ [steps1], r_1 ++ [doors2]), true) else none
            else none
theorem s_AddFloor_e (h0_Stairs : List Int) (h0_Doors : List Int) (steps1 : Int) (doors2 : Int) : c_s_AddFloor.start c_s_AddFloor.L ((h0_Stairs, h0_Doors), steps1, doors2, ()) = s_AddFloor h0_Stairs h0_Doors steps1 doors2 := by kernel_rfl
noncomputable def F_s_AddFloor : Ins c_s_AddFloor.ins → Option ((List Int × List Int) × Bool) := fun x => s_AddFloor x.1.1 x.1.2 x.2.1 x.2.2.1
noncomputable def S_s_AddFloor : FSpec := mkF c_s_AddFloor.env.pre c_s_AddFloor.ins c_s_AddFloor.out c_s_AddFloor.inj F_s_AddFloor
theorem h_s_AddFloor : Cert Tryz.prog 28 S_s_AddFloor := FnCx.certF (c := c_s_AddFloor) F_s_AddFloor (tyOk _ _ _) (spOk ⟨h_s_ldGood, fun _ _ h => h, ⟨h_s_l1In, fun _ _ h => h, ⟨h_s_l1Own, fun _ _ h => h, trivial⟩⟩⟩) (fun _ _ _ _ _ hs => evDr_ok (tyOk _ _ _) hs follows) Tryz.func28 rfl rfl Tryz.ntmps28 (by kernel_rfl) rfl rfl (fun _ => rfl) trivial (fun x => .inl ⟨c_s_AddFloor.start () x, fun _ => rfl⟩) (fun x t hb ht => by
  obtain ⟨⟨h0_Stairs, h0_Doors⟩, steps1, doors2, _⟩ := x
  exact (s_AddFloor_e h0_Stairs h0_Doors steps1 doors2).trans ht)
/-! impl.StairsAbove -/
noncomputable def c_i_StairsAbove : FnCx := { env := env 35 [(20, S_i_IsHouse), (35, S_i_within)] [], body := bodyOf Tryz.f24, res := [.tmp 4, .tmp 5], ins := [.ro kHouse, .ro kint], out := [(kSint, true), (kbool, true)], T := List Int × Bool, fin := fun r => (r.1.1, r.1.2.1), inj := fun t => ((t.1, t.2, ()), ((), (), ())), pts := [([.inLoop [1, 1, 1, 0, 1, 0, 0], .inBlock 0, .code [1, 1, 1, 1]], Shape.mk [Bs.row kint 3 true, Bs.row kint 3 false] [(1, Ss.one (Cs.sc kint)), (6, Ss.one (Cs.sl 0)), (19, Ss.one (Cs.sl 1)), (20, Ss.one (Cs.sc kint)), (21, Ss.one (Cs.sc kint))] [Ss.one (Cs.any), Ss.one (Cs.any)])], fuel := 400, dr := noDr }
noncomputable def i_StairsAbove_t1 (g1 : List (Int) → List (Int) → Int → Int → Int → Option (List Int × Bool)) (r0 : List (Int)) (r1 : List (Int)) (steps1 : Int) (s20 : Int) (s21 : Int) : Option (List Int × Bool) :=
  bif decide (s21 < s20) then
    bif decide (0 ≤ s21) then
      bif decide (s21 < (↑(List.length r1) : Int)) then
        bif decide (rdk kint r1 s21 > steps1) then
          bif Nat.ble (List.length r0 + 1) 4294967296 then g1 (r0 ++ [s21]) r1 steps1 s20 (IntKind.wrap IntKind.i64 (s21 + 1)) else none
        else g1 r0 r1 steps1 s20 (IntKind.wrap IntKind.i64 (s21 + 1))
      else none
    else none
  else some (r0, true)
noncomputable def i_StairsAbove_t0 (g1 : List (Int) → List (Int) → Int → Int → Int → Option (List Int × Bool)) (h0_Stairs : List Int) (h0_Doors : List Int) (steps1 : Int) : Option (List Int × Bool) :=
  bif !i_IsHouse h0_Stairs h0_Doors then some ([], false)
  else bif !i_within steps1 0 40 then some ([], false) else g1 [] h0_Stairs steps1 (↑(List.length h0_Stairs) : Int) 0
theorem i_StairsAbove_ts : Tails c_i_StairsAbove.pts c_i_StairsAbove.round :=
  ⟨fun s => by
    obtain ⟨⟨r0, r1, _⟩, ⟨steps1, _, _, s20, s21, _⟩, ⟨_, _, _⟩⟩ := s
    refine Tail.eq (Y := fun g => i_StairsAbove_t1 (fun r0 r1 steps1 s20 s21 => g.1 ((r0, r1, ()), (steps1, (), (), s20, s21, ()), ((), (), ()))) r0 r1 steps1 s20 s21) ?_ (fun g => by kernel_rfl)
    simp only [i_StairsAbove_t1]; repeat (first | exact Tail.const _ | exact Tail.here _ | exact Tail.there (Tail.here _) | exact Tail.there (Tail.there (Tail.here _)) | exact Tail.there (Tail.there (Tail.there (Tail.here _))) | exact Tail.there (Tail.there (Tail.there (Tail.there (Tail.here _)))) | exact Tail.there (Tail.there (Tail.there (Tail.there (Tail.there (Tail.here _))))) | apply Tail.cond | (apply Tail.bind; intro _)), trivial⟩
theorem i_StairsAbove_hs : ∀ x, Tail c_i_StairsAbove.pts (fun g => c_i_StairsAbove.start g x) := fun x => by
    obtain ⟨⟨h0_Stairs, h0_Doors⟩, steps1, _⟩ := x
    refine Tail.eq (Y := fun g => i_StairsAbove_t0 (fun r0 r1 steps1 s20 s21 => g.1 ((r0, r1, ()), (steps1, (), (), s20, s21, ()), ((), (), ()))) h0_Stairs h0_Doors steps1) ?_ (fun g => by kernel_rfl)
    simp only [i_StairsAbove_t0]; repeat (first | exact Tail.const _ | exact Tail.here _ | exact Tail.there (Tail.here _) | exact Tail.there (Tail.there (Tail.here _)) | exact Tail.there (Tail.there (Tail.there (Tail.here _))) | exact Tail.there (Tail.there (Tail.there (Tail.there (Tail.here _)))) | exact Tail.there (Tail.there (Tail.there (Tail.there (Tail.there (Tail.here _))))) | apply Tail.cond | (apply Tail.bind; intro _))
noncomputable def i_StairsAbove_L1 (r0 : List (Int)) (r1 : List (Int)) (steps1 : Int) (s20 : Int) (s21 : Int) : Option (List Int × Bool) := c_i_StairsAbove.L.1 ((r0, r1, ()), (steps1, (), (), s20, s21, ()), ((), (), ()))
theorem i_StairsAbove_u1 (r0 : List (Int)) (r1 : List (Int)) (steps1 : Int) (s20 : Int) (s21 : Int) : i_StairsAbove_L1 r0 r1 steps1 s20 s21 = i_StairsAbove_t1 i_StairsAbove_L1 r0 r1 steps1 s20 s21 :=
  (congrArg (fun g => g.1 ((r0, r1, ()), (steps1, (), (), s20, s21, ()), ((), (), ()))) (FnCx.L_eq i_StairsAbove_ts)).trans (by kernel_rfl)
noncomputable def i_StairsAbove (h0_Stairs : List Int) (h0_Doors : List Int) (steps1 : Int) : Option (List Int × Bool) := i_StairsAbove_t0 i_StairsAbove_L1 h0_Stairs h0_Doors steps1
theorem i_StairsAbove_e (h0_Stairs : List Int) (h0_Doors : List Int) (steps1 : Int) : c_i_StairsAbove.start c_i_StairsAbove.L ((h0_Stairs, h0_Doors), steps1, ()) = i_StairsAbove h0_Stairs h0_Doors steps1 := by kernel_rfl
noncomputable def F_i_StairsAbove : Ins c_i_StairsAbove.ins → Option (List Int × Bool) := fun x => i_StairsAbove x.1.1 x.1.2 x.2.1
noncomputable def S_i_StairsAbove : FSpec := mkF c_i_StairsAbove.env.pre c_i_StairsAbove.ins c_i_StairsAbove.out c_i_StairsAbove.inj F_i_StairsAbove
theorem h_i_StairsAbove : Cert Tryz.prog 24 S_i_StairsAbove := FnCx.certF (c := c_i_StairsAbove) F_i_StairsAbove (tyOk _ _ _) (spOk ⟨h_i_IsHouse, fun _ _ h => h, ⟨h_i_within, fun _ _ h => h, trivial⟩⟩) (fun _ _ _ _ _ hs => noDr_ok) Tryz.func24 rfl rfl Tryz.ntmps24 (by kernel_rfl) rfl rfl (fun _ => rfl) i_StairsAbove_ts i_StairsAbove_hs (fun x t hb ht => by
  obtain ⟨⟨h0_Stairs, h0_Doors⟩, steps1, _⟩ := x
  exact (i_StairsAbove_e h0_Stairs h0_Doors steps1).trans ht)
/-! spec.StairsAbove -/
noncomputable def c_s_StairsAbove : FnCx := { env := env 34 [(40, S_s_ldGood), (55, S_s_l1In)] [], body := bodyOf Tryz.f30, res := [.tmp 4, .tmp 5], ins := [.ro kHouse, .ro kint], out := [(kSint, true), (kbool, true)], T := List Int × Bool, fin := fun r => (r.1.1, r.1.2.1), inj := fun t => ((t.1, t.2, ()), ((), (), ())), pts := [([.inLoop [1, 1, 1, 0, 1, 0, 0], .inBlock 0, .code [1, 1, 1, 1]], Shape.mk [Bs.row kint 3 true, Bs.row kint 3 false] [(1, Ss.one (Cs.sc kint)), (6, Ss.one (Cs.sl 0)), (18, Ss.one (Cs.sl 1)), (19, Ss.one (Cs.sc kint)), (20, Ss.one (Cs.sc kint))] [Ss.one (Cs.any), Ss.one (Cs.any)])], fuel := 400, dr := noDr }
noncomputable def s_StairsAbove_t1 (g1 : List (Int) → List (Int) → Int → Int → Int → Option (List Int × Bool)) (r0 : List (Int)) (r1 : List (Int)) (steps1 : Int) (s19 : Int) (s20 : Int) : Option (List Int × Bool) :=
  bif decide (s20 < s19) then
    bif decide (0 ≤ s20) then
      bif decide (s20 < (↑(List.length r1) : Int)) then
        bif decide (rdk kint r1 s20 > steps1) then
          bif Nat.ble (List.length r0 + 1) 4294967296 then g1 (r0 ++ [s20]) r1 steps1 s19 (IntKind.wrap IntKind.i64 (s20 + 1)) else none
        else g1 r0 r1 steps1 s19 (IntKind.wrap IntKind.i64 (s20 + 1))
      else none
    else none
  else some (r0, true)
noncomputable def s_StairsAbove_t0 (g1 : List (Int) → List (Int) → Int → Int → Int → Option (List Int × Bool)) (h0_Stairs : List Int) (h0_Doors : List Int) (steps1 : Int) : Option (List Int × Bool) :=
  bif !s_ldGood h0_Stairs h0_Doors then some ([], false)
  else bif !s_l1In steps1 0 40 then some ([], false) else g1 [] h0_Stairs steps1 (↑(List.length h0_Stairs) : Int) 0
theorem s_StairsAbove_ts : Tails c_s_StairsAbove.pts c_s_StairsAbove.round :=
  ⟨fun s => by
    obtain ⟨⟨r0, r1, _⟩, ⟨steps1, _, _, s19, s20, _⟩, ⟨_, _, _⟩⟩ := s
    refine Tail.eq (Y := fun g => s_StairsAbove_t1 (fun r0 r1 steps1 s19 s20 => g.1 ((r0, r1, ()), (steps1, (), (), s19, s20, ()), ((), (), ()))) r0 r1 steps1 s19 s20) ?_ (fun g => by kernel_rfl)
    simp only [s_StairsAbove_t1]; repeat (first | exact Tail.const _ | exact Tail.here _ | exact Tail.there (Tail.here _) | exact Tail.there (Tail.there (Tail.here _)) | exact Tail.there (Tail.there (Tail.there (Tail.here _))) | exact Tail.there (Tail.there (Tail.there (Tail.there (Tail.here _)))) | exact Tail.there (Tail.there (Tail.there (Tail.there (Tail.there (Tail.here _))))) | apply Tail.cond | (apply Tail.bind; intro _)), trivial⟩
theorem s_StairsAbove_hs : ∀ x, Tail c_s_StairsAbove.pts (fun g => c_s_StairsAbove.start g x) := fun x => by
    obtain ⟨⟨h0_Stairs, h0_Doors⟩, steps1, _⟩ := x
    refine Tail.eq (Y := fun g => s_StairsAbove_t0 (fun r0 r1 steps1 s19 s20 => g.1 ((r0, r1, ()), (steps1, (), (), s19, s20, ()), ((), (), ()))) h0_Stairs h0_Doors steps1) ?_ (fun g => by kernel_rfl)
    simp only [s_StairsAbove_t0]; repeat (first | exact Tail.const _ | exact Tail.here _ | exact Tail.there (Tail.here _) | exact Tail.there (Tail.there (Tail.here _)) | exact Tail.there (Tail.there (Tail.there (Tail.here _))) | exact Tail.there (Tail.there (Tail.there (Tail.there (Tail.here _)))) | exact Tail.there (Tail.there (Tail.there (Tail.there (Tail.there (Tail.here _))))) | apply Tail.cond | (apply Tail.bind; intro _))
noncomputable def s_StairsAbove_L1 (r0 : List (Int)) (r1 : List (Int)) (steps1 : Int) (s19 : Int) (s20 : Int) : Option (List Int × Bool) := c_s_StairsAbove.L.1 ((r0, r1, ()), (steps1, (), (), s19, s20, ()), ((), (), ()))
theorem s_StairsAbove_u1 (r0 : List (Int)) (r1 : List (Int)) (steps1 : Int) (s19 : Int) (s20 : Int) : s_StairsAbove_L1 r0 r1 steps1 s19 s20 = s_StairsAbove_t1 s_StairsAbove_L1 r0 r1 steps1 s19 s20 :=
  (congrArg (fun g => g.1 ((r0, r1, ()), (steps1, (), (), s19, s20, ()), ((), (), ()))) (FnCx.L_eq s_StairsAbove_ts)).trans (by kernel_rfl)
noncomputable def s_StairsAbove (h0_Stairs : List Int) (h0_Doors : List Int) (steps1 : Int) : Option (List Int × Bool) := s_StairsAbove_t0 s_StairsAbove_L1 h0_Stairs h0_Doors steps1
theorem s_StairsAbove_e (h0_Stairs : List Int) (h0_Doors : List Int) (steps1 : Int) : c_s_StairsAbove.start c_s_StairsAbove.L ((h0_Stairs, h0_Doors), steps1, ()) = s_StairsAbove h0_Stairs h0_Doors steps1 := by kernel_rfl
noncomputable def F_s_StairsAbove : Ins c_s_StairsAbove.ins → Option (List Int × Bool) := fun x => s_StairsAbove x.1.1 x.1.2 x.2.1
noncomputable def S_s_StairsAbove : FSpec := mkF c_s_StairsAbove.env.pre c_s_StairsAbove.ins c_s_StairsAbove.out c_s_StairsAbove.inj F_s_StairsAbove
theorem h_s_StairsAbove : Cert Tryz.prog 30 S_s_StairsAbove := FnCx.certF (c := c_s_StairsAbove) F_s_StairsAbove (tyOk _ _ _) (spOk ⟨h_s_ldGood, fun _ _ h => h, ⟨h_s_l1In, fun _ _ h => h, trivial⟩⟩) (fun _ _ _ _ _ hs => noDr_ok) Tryz.func30 rfl rfl Tryz.ntmps30 (by kernel_rfl) rfl rfl (fun _ => rfl) s_StairsAbove_ts s_StairsAbove_hs (fun x t hb ht => by
  obtain ⟨⟨h0_Stairs, h0_Doors⟩, steps1, _⟩ := x
  exact (s_StairsAbove_e h0_Stairs h0_Doors steps1).trans ht)
/-! strings.Split -/
noncomputable def strings_Split (s sep : ByteArray) : Option (List ByteArray) := splitF s sep
noncomputable def F_strings_Split : Ins [.ro kstring, .ro kstring] → Option (List ByteArray) := fun x => strings_Split x.1 x.2.1
noncomputable def S_strings_Split : FSpec := mkF (T := List ByteArray) textPre [.ro kstring, .ro kstring] [(kSstring, true)] (fun t => ((t, ()), ((), (), ()))) F_strings_Split
theorem h_strings_Split : Cert Tryz.prog 50 S_strings_Split := split_cert (show Lays.n146 Tryz.prog lsplit_ren from { lsplit with }) (by kernel_rfl) rfl rfl ⟨_, Tryz.func50, rfl, by kernel_rfl⟩ (by simp [textL]) (by kernel_rfl)
/-! strconv.Atoi -/
noncomputable def strconv_Atoi (s : ByteArray) : Option (Int × Bool) := atoiF s
noncomputable def F_strconv_Atoi : Ins [.ro kstring] → Option (Int × Bool) := fun x => strconv_Atoi x.1
noncomputable def S_strconv_Atoi : FSpec := mkF (T := Int × Bool) textPre [.ro kstring] [(.int .i64, true), (.err, true)] (fun t => ((t.1, t.2, ()), ((), ()))) F_strconv_Atoi
theorem h_strconv_Atoi : Cert Tryz.prog 66 S_strconv_Atoi := atoi_cert rfl latoi rfl ⟨_, Tryz.func66, rfl, by kernel_rfl⟩ (by simp [textL]) (by kernel_rfl) (by simp [textL]) (by kernel_rfl)
/-! impl.num -/
noncomputable def c_i_num : FnCx := { env := env 27 [(66, S_strconv_Atoi), (43, S_strconv_Itoa)] [], body := bodyOf Tryz.f51, res := [.tmp 2], ins := [.ro kstring], out := [(kint, true)], T := Int, fin := fun r => r.1.1, inj := fun t => ((t, ()), ((), ())), pts := [], fuel := 400, dr := noDr }
noncomputable def i_num (s0 : ByteArray) : Option Int :=
  Option.bind (strconv_Atoi s0) fun r =>
    bif !Prod.snd r then some (-1)
    else
      bif decide (Prod.fst r < 0) then some (-1)
      else
        bif decide (Prod.fst r > 999999) then some (-1)
        else Option.bind (strconv_Itoa (Prod.fst r)) fun r_1 => bif !ByteArray.toList r_1 == ByteArray.toList s0 then some (-1) else some (Prod.fst r)
theorem i_num_e (s0 : ByteArray) : c_i_num.start c_i_num.L (s0, ()) = i_num s0 := by kernel_rfl
noncomputable def F_i_num : Ins c_i_num.ins → Option Int := fun x => i_num x.1
noncomputable def S_i_num : FSpec := mkF c_i_num.env.pre c_i_num.ins c_i_num.out c_i_num.inj F_i_num
theorem h_i_num : Cert Tryz.prog 51 S_i_num := FnCx.certF (c := c_i_num) F_i_num (tyOk _ _ _) (spOk ⟨h_strconv_Atoi, fun _ _ h => h, ⟨h_strconv_Itoa, fun _ _ h => h, trivial⟩⟩) (fun _ _ _ _ _ hs => noDr_ok) Tryz.func51 rfl rfl Tryz.ntmps51 (by kernel_rfl) rfl rfl (fun _ => rfl) trivial (fun x => .inl ⟨c_i_num.start () x, fun _ => rfl⟩) (fun x t hb ht => by
  obtain ⟨s0, _⟩ := x
  exact (i_num_e s0).trans ht)
/-! strings.Cut -/
noncomputable def strings_Cut (s sep : ByteArray) : Option (ByteArray × ByteArray × Bool) := cutF s sep
noncomputable def F_strings_Cut : Ins [.ro kstring, .ro kstring] → Option (ByteArray × ByteArray × Bool) := fun x => strings_Cut x.1 x.2.1
noncomputable def S_strings_Cut : FSpec := mkF (T := ByteArray × ByteArray × Bool) textPre [.ro kstring, .ro kstring] [(.str, true), (.str, true), (.bool, true)] (fun t => ((t.1, t.2.1, t.2.2, ()), ((), (), ()))) F_strings_Cut
theorem h_strings_Cut : Cert Tryz.prog 52 S_strings_Cut := cut_cert (show Lays.n145 Tryz.prog lcut_ren from { lcut with }) rfl ⟨_, Tryz.func52, rfl, by kernel_rfl⟩ (by simp [textL]) (by kernel_rfl)
/-! impl.ParseHouse -/
noncomputable def c_i_ParseHouse : FnCx := { env := env 52 [(50, S_strings_Split), (51, S_i_num), (52, S_strings_Cut), (20, S_i_IsHouse)] [], body := bodyOf Tryz.f23, res := [.cell 2 26, .tmp 3], ins := [.ro kstring], out := [(kHouse, true), (kbool, true)], T := (List Int × List Int) × Bool, fin := fun r => (r.1.1, r.1.2.1), inj := fun t => ((t.1, t.2, ()), ((), ())), pts := [([.inLoop [1, 1, 1, 0, 1, 0, 0], .inBlock 0, .code [1, 1, 1, 1]], Shape.mk [Bs.box 26 [Cs.sl 3, Cs.sl 4], Bs.box 26 [Cs.sl 5, Cs.sl 6], Bs.row kstring 9 false, Bs.row kint 3 true, Bs.row kint 3 true, Bs.row kint 3 true, Bs.row kint 3 true] [(2, Ss.one (Cs.ptr 0 0)), (5, Ss.one (Cs.ptr 1 0)), (20, Ss.one (Cs.sl 2)), (21, Ss.one (Cs.sc kint)), (22, Ss.one (Cs.sc kint))] [Ss.one (Cs.any)])], fuel := 400, dr := evDr (env 52 [(50, S_strings_Split), (51, S_i_num), (52, S_strings_Cut), (20, S_i_IsHouse)] []) }
noncomputable def i_ParseHouse_t1 (g1 : List (ByteArray) → List (Int) → List (Int) → List (Int) → List (Int) → Int → Int → Option ((List Int × List Int) × Bool)) (r2 : List (ByteArray)) (r3 : List (Int)) (r4 : List (Int)) (r5 : List (Int)) (r6 : List (Int)) (s21 : Int) (s22 : Int) : Option ((List Int × List Int) × Bool) :=
  bif decide (s22 < s21) then
    bif decide (0 ≤ s22) then
      bif decide (s22 < (↑(List.length r2) : Int)) then
        Option.bind (strings_Cut (rdk kstring r2 s22) { data := #[58] }) fun r =>
          Option.bind (i_num (Prod.fst r)) fun r_1 =>
            bif Nat.ble (List.length r5 + 1) 4294967296 then
              Option.bind (i_num (Prod.fst (Prod.snd r))) fun r =>
                bif Nat.ble (List.length r6 + 1) 4294967296 then g1 r2 r3 r4 (r5 ++ [r_1]) (r6 ++ [r]) s21 (IntKind.wrap IntKind.i64 (s22 + 1)) else none
            else none
      else none
    else none
  else bif !i_IsHouse r5 r6 then some (([], []), false) else some ((r5, r6), true)
noncomputable def i_ParseHouse_t0 (g1 : List (ByteArray) → List (Int) → List (Int) → List (Int) → List (Int) → Int → Int → Option ((List Int × List Int) × Bool)) (s0 : ByteArray) : Option ((List Int × List Int) × Bool) :=
  Option.bind (strings_Split s0 { data := #[94] }) fun r =>
    bif decide (0 < (↑(List.length r) : Int)) then
      Option.bind (i_num (rdk kstring r 0)) fun r_1 =>
        bif decide (1 ≤ (↑(List.length r) : Int)) then
          g1 (List.take (Int.toNat (↑(List.length r) : Int) - Int.toNat 1) (List.drop (Int.toNat 1) r)) [] [] [] [r_1]
            (↑(List.length (List.take (Int.toNat (↑(List.length r) : Int) - Int.toNat 1) (List.drop (Int.toNat 1) r))) : Int) 0
        else none
    else none
theorem i_ParseHouse_ts : Tails c_i_ParseHouse.pts c_i_ParseHouse.round :=
  ⟨fun s => by
    obtain ⟨⟨⟨_, _, _⟩, ⟨_, _, _⟩, r2, r3, r4, r5, r6, _⟩, ⟨_, _, _, s21, s22, _⟩, ⟨_, _⟩⟩ := s
    refine Tail.eq (Y := fun g => i_ParseHouse_t1 (fun r2 r3 r4 r5 r6 s21 s22 => g.1 ((((), (), ()), ((), (), ()), r2, r3, r4, r5, r6, ()), ((), (), (), s21, s22, ()), ((), ()))) r2 r3 r4 r5 r6 s21 s22) ?_ (fun g => by kernel_rfl)
    simp only [i_ParseHouse_t1]; repeat (first | exact Tail.const _ | exact Tail.here _ | exact Tail.there (Tail.here _) | exact Tail.there (Tail.there (Tail.here _)) | exact Tail.there (Tail.there (Tail.there (Tail.here _))) | exact Tail.there (Tail.there (Tail.there (Tail.there (Tail.here _)))) | exact Tail.there (Tail.there (Tail.there (Tail.there (Tail.there (Tail.here _))))) | apply Tail.cond | (apply Tail.bind; intro _)), trivial⟩
theorem i_ParseHouse_hs : ∀ x, Tail c_i_ParseHouse.pts (fun g => c_i_ParseHouse.start g x) := fun x => by
    obtain ⟨s0, _⟩ := x
    refine Tail.eq (Y := fun g => i_ParseHouse_t0 (fun r2 r3 r4 r5 r6 s21 s22 => g.1 ((((), (), ()), ((), (), ()), r2, r3, r4, r5, r6, ()), ((), (), (), s21, s22, ()), ((), ()))) s0) ?_ (fun g => by kernel_rfl)
    simp only [i_ParseHouse_t0]; repeat (first | exact Tail.const _ | exact Tail.here _ | exact Tail.there (Tail.here _) | exact Tail.there (Tail.there (Tail.here _)) | exact Tail.there (Tail.there (Tail.there (Tail.here _))) | exact Tail.there (Tail.there (Tail.there (Tail.there (Tail.here _)))) | exact Tail.there (Tail.there (Tail.there (Tail.there (Tail.there (Tail.here _))))) | apply Tail.cond | (apply Tail.bind; intro _))
noncomputable def i_ParseHouse_L1 (r2 : List (ByteArray)) (r3 : List (Int)) (r4 : List (Int)) (r5 : List (Int)) (r6 : List (Int)) (s21 : Int) (s22 : Int) : Option ((List Int × List Int) × Bool) := c_i_ParseHouse.L.1 ((((), (), ()), ((), (), ()), r2, r3, r4, r5, r6, ()), ((), (), (), s21, s22, ()), ((), ()))
theorem i_ParseHouse_u1 (r2 : List (ByteArray)) (r3 : List (Int)) (r4 : List (Int)) (r5 : List (Int)) (r6 : List (Int)) (s21 : Int) (s22 : Int) : i_ParseHouse_L1 r2 r3 r4 r5 r6 s21 s22 = i_ParseHouse_t1 i_ParseHouse_L1 r2 r3 r4 r5 r6 s21 s22 :=
  (congrArg (fun g => g.1 ((((), (), ()), ((), (), ()), r2, r3, r4, r5, r6, ()), ((), (), (), s21, s22, ()), ((), ()))) (FnCx.L_eq i_ParseHouse_ts)).trans (by kernel_rfl)
noncomputable def i_ParseHouse (s0 : ByteArray) : Option ((List Int × List Int) × Bool) := i_ParseHouse_t0 i_ParseHouse_L1 s0
theorem i_ParseHouse_e (s0 : ByteArray) : c_i_ParseHouse.start c_i_ParseHouse.L (s0, ()) = i_ParseHouse s0 := by kernel_rfl
noncomputable def F_i_ParseHouse : Ins c_i_ParseHouse.ins → Option ((List Int × List Int) × Bool) := fun x => i_ParseHouse x.1
noncomputable def S_i_ParseHouse : FSpec := mkF c_i_ParseHouse.env.pre c_i_ParseHouse.ins c_i_ParseHouse.out c_i_ParseHouse.inj F_i_ParseHouse
theorem h_i_ParseHouse : Cert Tryz.prog 23 S_i_ParseHouse := FnCx.certF (c := c_i_ParseHouse) F_i_ParseHouse (tyOk _ _ _) (spOk ⟨h_strings_Split, fun _ _ h => h, ⟨h_i_num, fun _ _ h => h, ⟨h_strings_Cut, fun _ _ h => h, ⟨h_i_IsHouse, fun _ _ h => h, trivial⟩⟩⟩⟩) (fun _ _ _ _ _ hs => evDr_ok (tyOk _ _ _) hs follows) Tryz.func23 rfl rfl Tryz.ntmps23 (by kernel_rfl) rfl rfl (fun _ => rfl) i_ParseHouse_ts i_ParseHouse_hs (fun x t hb ht => by
  obtain ⟨s0, _⟩ := x
  exact (i_ParseHouse_e s0).trans ht)
/-! spec.l1Split -/
noncomputable def c_s_l1Split : FnCx := { env := env 34 [] [], body := bodyOf Tryz.f69, res := [.tmp 4], ins := [.ro kstring, .ro kuint8], out := [(kSstring, true)], T := List ByteArray, fin := fun r => r.1.1, inj := fun t => ((t, ()), ((), (), ())), pts := [([.inLoop [1, 1, 1, 0, 1, 0, 0], .inBlock 0, .code [1, 1, 1, 1]], Shape.mk [Bs.row kstring 9 true] [(0, Ss.one (Cs.sc kstring)), (1, Ss.one (Cs.sc kuint8)), (5, Ss.one (Cs.sl 0)), (6, Ss.one (Cs.sc kint)), (7, Ss.one (Cs.sc kint))] [Ss.one (Cs.any), Ss.one (Cs.any)])], fuel := 400, dr := noDr }
noncomputable def s_l1Split_t1 (g1 : List (ByteArray) → ByteArray → Int → Int → Int → Option (List ByteArray)) (r0 : List (ByteArray)) (s0 : ByteArray) (b1 : Int) (from6 : Int) (i7 : Int) : Option (List ByteArray) :=
  bif decide (i7 < (↑(ByteArray.size s0) : Int)) then
    bif decide (0 ≤ i7) then
      bif decide (i7 < (↑(ByteArray.size s0) : Int)) then
        bif bt s0 i7 == b1 then
          bif decide (0 ≤ i7) then
            bif decide (i7 ≤ (↑(ByteArray.size s0) : Int)) then
              bif decide (0 ≤ from6) then
                bif decide (from6 ≤ i7) then
                  bif Nat.ble (List.length r0 + 1) 4294967296 then
                    g1 (r0 ++ [ByteArray.extract s0 (Int.toNat from6) (Int.toNat i7)]) s0 b1 (IntKind.wrap IntKind.i64 (i7 + 1))
                      (IntKind.wrap IntKind.i64 (i7 + 1))
                  else none
                else none
              else none
            else none
          else none
        else g1 r0 s0 b1 from6 (IntKind.wrap IntKind.i64 (i7 + 1))
      else none
    else none
  else
    bif decide (0 ≤ from6) then
      bif decide (from6 ≤ (↑(ByteArray.size s0) : Int)) then
        bif Nat.ble (List.length r0 + 1) 4294967296 then some (r0 ++ [ByteArray.extract s0 (Int.toNat from6) (Int.toNat (↑(ByteArray.size s0) : Int))]) else none
      else none
    else none
noncomputable def s_l1Split_t0 (g1 : List (ByteArray) → ByteArray → Int → Int → Int → Option (List ByteArray)) (s0 : ByteArray) (b1 : Int) : Option (List ByteArray) :=
  g1 [] s0 b1 0 0
theorem s_l1Split_ts : Tails c_s_l1Split.pts c_s_l1Split.round :=
  ⟨fun s => by
    obtain ⟨⟨r0, _⟩, ⟨s0, b1, _, from6, i7, _⟩, ⟨_, _, _⟩⟩ := s
    refine Tail.eq (Y := fun g => s_l1Split_t1 (fun r0 s0 b1 from6 i7 => g.1 ((r0, ()), (s0, b1, (), from6, i7, ()), ((), (), ()))) r0 s0 b1 from6 i7) ?_ (fun g => by kernel_rfl)
    simp only [s_l1Split_t1]; repeat (first | apply Tail.cond | (apply Tail.bind; intro _) | exact Tail.here _ | exact Tail.there (Tail.here _) | exact Tail.there (Tail.there (Tail.here _)) | exact Tail.there (Tail.there (Tail.there (Tail.here _))) | exact Tail.there (Tail.there (Tail.there (Tail.there (Tail.here _)))) | exact Tail.there (Tail.there (Tail.there (Tail.there (Tail.there (Tail.here _))))) | exact Tail.const _), trivial⟩
theorem s_l1Split_hs : ∀ x, Tail c_s_l1Split.pts (fun g => c_s_l1Split.start g x) := fun x => by
    obtain ⟨s0, b1, _⟩ := x
    refine Tail.eq (Y := fun g => s_l1Split_t0 (fun r0 s0 b1 from6 i7 => g.1 ((r0, ()), (s0, b1, (), from6, i7, ()), ((), (), ()))) s0 b1) ?_ (fun g => by kernel_rfl)
    simp only [s_l1Split_t0]; repeat (first | apply Tail.cond | (apply Tail.bind; intro _) | exact Tail.here _ | exact Tail.there (Tail.here _) | exact Tail.there (Tail.there (Tail.here _)) | exact Tail.there (Tail.there (Tail.there (Tail.here _))) | exact Tail.there (Tail.there (Tail.there (Tail.there (Tail.here _)))) | exact Tail.there (Tail.there (Tail.there (Tail.there (Tail.there (Tail.here _))))) | exact Tail.const _)
noncomputable def s_l1Split_L1 (r0 : List (ByteArray)) (s0 : ByteArray) (b1 : Int) (from6 : Int) (i7 : Int) : Option (List ByteArray) := c_s_l1Split.L.1 ((r0, ()), (s0, b1, (), from6, i7, ()), ((), (), ()))
theorem s_l1Split_u1 (r0 : List (ByteArray)) (s0 : ByteArray) (b1 : Int) (from6 : Int) (i7 : Int) : s_l1Split_L1 r0 s0 b1 from6 i7 = s_l1Split_t1 s_l1Split_L1 r0 s0 b1 from6 i7 :=
  (congrArg (fun g => g.1 ((r0, ()), (s0, b1, (), from6, i7, ()), ((), (), ()))) (FnCx.L_eq s_l1Split_ts)).trans (by kernel_rfl)
noncomputable def s_l1Split (s0 : ByteArray) (b1 : Int) : Option (List ByteArray) := s_l1Split_t0 s_l1Split_L1 s0 b1
theorem s_l1Split_e (s0 : ByteArray) (b1 : Int) : c_s_l1Split.start c_s_l1Split.L (s0, b1, ()) = s_l1Split s0 b1 := by kernel_rfl
noncomputable def F_s_l1Split : Ins c_s_l1Split.ins → Option (List ByteArray) := fun x => s_l1Split x.1 x.2.1
noncomputable def S_s_l1Split : FSpec := mkF c_s_l1Split.env.pre c_s_l1Split.ins c_s_l1Split.out c_s_l1Split.inj F_s_l1Split
theorem h_s_l1Split : Cert Tryz.prog 69 S_s_l1Split := FnCx.certF (c := c_s_l1Split) F_s_l1Split (tyOk _ _ _) (spOk trivial) (fun _ _ _ _ _ hs => noDr_ok) Tryz.func69 rfl rfl Tryz.ntmps69 (by kernel_rfl) rfl rfl (fun _ => rfl) s_l1Split_ts s_l1Split_hs (fun x t hb ht => by
  obtain ⟨s0, b1, _⟩ := x
  exact (s_l1Split_e s0 b1).trans ht)
/-! spec.l1Read -/
noncomputable def c_s_l1Read : FnCx := { env := env 44 [(55, S_s_l1In)] [], body := bodyOf Tryz.f70, res := [.tmp 2], ins := [.ro kstring], out := [(kint, true)], T := Int, fin := fun r => r.1.1, inj := fun t => ((t, ()), ((), ())), pts := [([.inLoop [1, 1, 1, 0, 1, 0, 0], .inBlock 0, .code [1, 1, 1, 1]], Shape.mk [] [(0, Ss.one (Cs.sc kstring)), (3, Ss.one (Cs.sc kint)), (4, Ss.one (Cs.sc kint))] [Ss.one (Cs.any)])], fuel := 400, dr := noDr }
noncomputable def s_l1Read_t1 (g1 : ByteArray → Int → Int → Option (Int)) (s0 : ByteArray) (n3 : Int) (i4 : Int) : Option Int :=
  bif decide (i4 < (↑(ByteArray.size s0) : Int)) then
    bif decide (0 ≤ i4) then
      bif decide (i4 < (↑(ByteArray.size s0) : Int)) then
        bif decide (bt s0 i4 < 48) then some (-1)
        else
          bif decide (0 ≤ i4) then
            bif decide (i4 < (↑(ByteArray.size s0) : Int)) then
              bif decide (bt s0 i4 > 57) then some (-1)
              else
                bif decide (0 ≤ i4) then
                  bif decide (i4 < (↑(ByteArray.size s0) : Int)) then
                    g1 s0 (IntKind.wrap IntKind.i64 (IntKind.wrap IntKind.i64 (10 * n3) + IntKind.wrap IntKind.i64 (IntKind.wrap IntKind.u8 (bt s0 i4 - 48))))
                      (IntKind.wrap IntKind.i64 (i4 + 1))
                  else none
                else none
            else none
          else none
      else none
    else none
  else some n3
noncomputable def s_l1Read_t0 (g1 : ByteArray → Int → Int → Option (Int)) (s0 : ByteArray) : Option Int :=
  bif !s_l1In (↑(ByteArray.size s0) : Int) 1 6 then some (-1)
  else
    bif decide (0 < (↑(ByteArray.size s0) : Int)) then
      bif bt s0 0 == 48 then bif decide ((↑(ByteArray.size s0) : Int) > 1) then some (-1) else g1 s0 0 0 else g1 s0 0 0
    else none
theorem s_l1Read_ts : Tails c_s_l1Read.pts c_s_l1Read.round :=
  ⟨fun s => by
    obtain ⟨_, ⟨s0, n3, i4, _⟩, ⟨_, _⟩⟩ := s
    refine Tail.eq (Y := fun g => s_l1Read_t1 (fun s0 n3 i4 => g.1 ((), (s0, n3, i4, ()), ((), ()))) s0 n3 i4) ?_ (fun g => by kernel_rfl)
    simp only [s_l1Read_t1]; repeat (first | apply Tail.cond | (apply Tail.bind; intro _) | exact Tail.here _ | exact Tail.there (Tail.here _) | exact Tail.there (Tail.there (Tail.here _)) | exact Tail.there (Tail.there (Tail.there (Tail.here _))) | exact Tail.there (Tail.there (Tail.there (Tail.there (Tail.here _)))) | exact Tail.there (Tail.there (Tail.there (Tail.there (Tail.there (Tail.here _))))) | exact Tail.const _), trivial⟩
theorem s_l1Read_hs : ∀ x, Tail c_s_l1Read.pts (fun g => c_s_l1Read.start g x) := fun x => by
    obtain ⟨s0, _⟩ := x
    refine Tail.eq (Y := fun g => s_l1Read_t0 (fun s0 n3 i4 => g.1 ((), (s0, n3, i4, ()), ((), ()))) s0) ?_ (fun g => by kernel_rfl)
    simp only [s_l1Read_t0]; repeat (first | apply Tail.cond | (apply Tail.bind; intro _) | exact Tail.here _ | exact Tail.there (Tail.here _) | exact Tail.there (Tail.there (Tail.here _)) | exact Tail.there (Tail.there (Tail.there (Tail.here _))) | exact Tail.there (Tail.there (Tail.there (Tail.there (Tail.here _)))) | exact Tail.there (Tail.there (Tail.there (Tail.there (Tail.there (Tail.here _))))) | exact Tail.const _)
noncomputable def s_l1Read_L1 (s0 : ByteArray) (n3 : Int) (i4 : Int) : Option Int := c_s_l1Read.L.1 ((), (s0, n3, i4, ()), ((), ()))
theorem s_l1Read_u1 (s0 : ByteArray) (n3 : Int) (i4 : Int) : s_l1Read_L1 s0 n3 i4 = s_l1Read_t1 s_l1Read_L1 s0 n3 i4 :=
  (congrArg (fun g => g.1 ((), (s0, n3, i4, ()), ((), ()))) (FnCx.L_eq s_l1Read_ts)).trans (by kernel_rfl)
noncomputable def s_l1Read (s0 : ByteArray) : Option Int := s_l1Read_t0 s_l1Read_L1 s0
theorem s_l1Read_e (s0 : ByteArray) : c_s_l1Read.start c_s_l1Read.L (s0, ()) = s_l1Read s0 := by kernel_rfl
noncomputable def F_s_l1Read : Ins c_s_l1Read.ins → Option Int := fun x => s_l1Read x.1
noncomputable def S_s_l1Read : FSpec := mkF c_s_l1Read.env.pre c_s_l1Read.ins c_s_l1Read.out c_s_l1Read.inj F_s_l1Read
theorem h_s_l1Read : Cert Tryz.prog 70 S_s_l1Read := FnCx.certF (c := c_s_l1Read) F_s_l1Read (tyOk _ _ _) (spOk ⟨h_s_l1In, fun _ _ h => h, trivial⟩) (fun _ _ _ _ _ hs => noDr_ok) Tryz.func70 rfl rfl Tryz.ntmps70 (by kernel_rfl) rfl rfl (fun _ => rfl) s_l1Read_ts s_l1Read_hs (fun x t hb ht => by
  obtain ⟨s0, _⟩ := x
  exact (s_l1Read_e s0).trans ht)
/-! spec.ldParse -/
noncomputable def c_s_ldParse : FnCx := { env := env 61 [(69, S_s_l1Split), (70, S_s_l1Read), (40, S_s_ldGood), (44, S_s_ldText)] [], body := bodyOf Tryz.f59, res := [.cell 2 26, .tmp 3], ins := [.ro kstring], out := [(kHouse, true), (kbool, true)], T := (List Int × List Int) × Bool, fin := fun r => (r.1.1, r.1.2.1), inj := fun t => ((t.1, t.2, ()), ((), ())), pts := [([.inLoop [1, 1, 1, 0, 1, 0, 0], .inBlock 0, .code [1, 1, 1, 1]], Shape.mk [Bs.box 26 [Cs.sl 3, Cs.sl 4], Bs.box 26 [Cs.sl 5, Cs.sl 6], Bs.row kstring 9 true, Bs.row kint 3 true, Bs.row kint 3 true, Bs.row kint 3 true, Bs.row kint 3 true] [(0, Ss.one (Cs.sc kstring)), (2, Ss.one (Cs.ptr 0 0)), (4, Ss.one (Cs.ptr 1 0)), (14, Ss.one (Cs.sl 2)), (15, Ss.one (Cs.sc kint)), (16, Ss.one (Cs.sc kint))] [Ss.one (Cs.any)])], fuel := 400, dr := evDr (env 61 [(69, S_s_l1Split), (70, S_s_l1Read), (40, S_s_ldGood), (44, S_s_ldText)] []) }
noncomputable def s_ldParse_t1 (g1 : List (ByteArray) → List (Int) → List (Int) → List (Int) → List (Int) → ByteArray → Int → Int → Option ((List Int × List Int) × Bool)) (r2 : List (ByteArray)) (r3 : List (Int)) (r4 : List (Int)) (r5 : List (Int)) (r6 : List (Int)) (s0 : ByteArray) (s15 : Int) (s16 : Int) : Option ((List Int × List Int) × Bool) :=
  bif decide (s16 < s15) then
    bif decide (0 ≤ s16) then
      bif decide (s16 < (↑(List.length r2) : Int)) then
        bif s16 == 0 then Option.bind (s_l1Read (rdk kstring r2 s16)) fun r => g1 r2 r3 r4 r5 [r] s0 s15 (IntKind.wrap IntKind.i64 (s16 + 1))
        else
          Option.bind (s_l1Split (rdk kstring r2 s16) 58) fun r =>
            bif (↑(List.length r) : Int) != 2 then some ((r5, r6), false)
            else
              bif decide (0 < (↑(List.length r) : Int)) then
                Option.bind (s_l1Read (rdk kstring r 0)) fun r_1 =>
                  bif Nat.ble (List.length r5 + 1) 4294967296 then
                    bif decide (1 < (↑(List.length r) : Int)) then
                      Option.bind (s_l1Read (rdk kstring r 1)) fun r =>
                        bif Nat.ble (List.length r6 + 1) 4294967296 then g1 r2 r3 r4 (r5 ++ [r_1]) (r6 ++ [r]) s0 s15 (IntKind.wrap IntKind.i64 (s16 + 1))
                        else none
                    else none
                  else none
              else none
      else none
    else none
  else bif s_ldGood r5 r6 then Option.bind (s_ldText r5 r6) fun r => some ((r5, r6), ByteArray.toList r == ByteArray.toList s0) else some ((r5, r6), false)
noncomputable def s_ldParse_t0 (g1 : List (ByteArray) → List (Int) → List (Int) → List (Int) → List (Int) → ByteArray → Int → Int → Option ((List Int × List Int) × Bool)) (s0 : ByteArray) : Option ((List Int × List Int) × Bool) :=
  bif decide ((↑(ByteArray.size s0) : Int) > 84) then some (([], []), false)
  else Option.bind (s_l1Split s0 94) fun r => g1 r [] [] [] [] s0 (↑(List.length r) : Int) 0
theorem s_ldParse_ts : Tails c_s_ldParse.pts c_s_ldParse.round :=
  ⟨fun s => by
    obtain ⟨⟨⟨_, _, _⟩, ⟨_, _, _⟩, r2, r3, r4, r5, r6, _⟩, ⟨s0, _, _, _, s15, s16, _⟩, ⟨_, _⟩⟩ := s
    refine Tail.eq (Y := fun g => s_ldParse_t1 (fun r2 r3 r4 r5 r6 s0 s15 s16 => g.1 ((((), (), ()), ((), (), ()), r2, r3, r4, r5, r6, ()), (s0, (), (), (), s15, s16, ()), ((), ()))) r2 r3 r4 r5 r6 s0 s15 s16) ?_ (fun g => by kernel_rfl)
    simp only [s_ldParse_t1]; repeat (first | apply Tail.cond | (apply Tail.bind; intro _) | exact Tail.here _ | exact Tail.there (Tail.here _) | exact Tail.there (Tail.there (Tail.here _)) | exact Tail.there (Tail.there (Tail.there (Tail.here _))) | exact Tail.there (Tail.there (Tail.there (Tail.there (Tail.here _)))) | exact Tail.there (Tail.there (Tail.there (Tail.there (Tail.there (Tail.here _))))) | exact Tail.const _), trivial⟩
theorem s_ldParse_hs : ∀ x, Tail c_s_ldParse.pts (fun g => c_s_ldParse.start g x) := fun x => by
    obtain ⟨s0, _⟩ := x
    refine Tail.eq (Y := fun g => s_ldParse_t0 (fun r2 r3 r4 r5 r6 s0 s15 s16 => g.1 ((((), (), ()), ((), (), ()), r2, r3, r4, r5, r6, ()), (s0, (), (), (), s15, s16, ()), ((), ()))) s0) ?_ (fun g => by kernel_rfl)
    simp only [s_ldParse_t0]; repeat (first | apply Tail.cond | (apply Tail.bind; intro _) | exact Tail.here _ | exact Tail.there (Tail.here _) | exact Tail.there (Tail.there (Tail.here _)) | exact Tail.there (Tail.there (Tail.there (Tail.here _))) | exact Tail.there (Tail.there (Tail.there (Tail.there (Tail.here _)))) | exact Tail.there (Tail.there (Tail.there (Tail.there (Tail.there (Tail.here _))))) | exact Tail.const _)
noncomputable def s_ldParse_L1 (r2 : List (ByteArray)) (r3 : List (Int)) (r4 : List (Int)) (r5 : List (Int)) (r6 : List (Int)) (s0 : ByteArray) (s15 : Int) (s16 : Int) : Option ((List Int × List Int) × Bool) := c_s_ldParse.L.1 ((((), (), ()), ((), (), ()), r2, r3, r4, r5, r6, ()), (s0, (), (), (), s15, s16, ()), ((), ()))
theorem s_ldParse_u1 (r2 : List (ByteArray)) (r3 : List (Int)) (r4 : List (Int)) (r5 : List (Int)) (r6 : List (Int)) (s0 : ByteArray) (s15 : Int) (s16 : Int) : s_ldParse_L1 r2 r3 r4 r5 r6 s0 s15 s16 = s_ldParse_t1 s_ldParse_L1 r2 r3 r4 r5 r6 s0 s15 s16 :=
  (congrArg (fun g => g.1 ((((), (), ()), ((), (), ()), r2, r3, r4, r5, r6, ()), (s0, (), (), (), s15, s16, ()), ((), ()))) (FnCx.L_eq s_ldParse_ts)).trans (by kernel_rfl)
noncomputable def s_ldParse (s0 : ByteArray) : Option ((List Int × List Int) × Bool) := s_ldParse_t0 s_ldParse_L1 s0
theorem s_ldParse_e (s0 : ByteArray) : c_s_ldParse.start c_s_ldParse.L (s0, ()) = s_ldParse s0 := by kernel_rfl
noncomputable def F_s_ldParse : Ins c_s_ldParse.ins → Option ((List Int × List Int) × Bool) := fun x => s_ldParse x.1
noncomputable def S_s_ldParse : FSpec := mkF c_s_ldParse.env.pre c_s_ldParse.ins c_s_ldParse.out c_s_ldParse.inj F_s_ldParse
theorem h_s_ldParse : Cert Tryz.prog 59 S_s_ldParse := FnCx.certF (c := c_s_ldParse) F_s_ldParse (tyOk _ _ _) (spOk ⟨h_s_l1Split, fun _ _ h => h, ⟨h_s_l1Read, fun _ _ h => h, ⟨h_s_ldGood, fun _ _ h => h, ⟨h_s_ldText, fun _ _ h => h, trivial⟩⟩⟩⟩) (fun _ _ _ _ _ hs => evDr_ok (tyOk _ _ _) hs follows) Tryz.func59 rfl rfl Tryz.ntmps59 (by kernel_rfl) rfl rfl (fun _ => rfl) s_ldParse_ts s_ldParse_hs (fun x t hb ht => by
  obtain ⟨s0, _⟩ := x
  exact (s_ldParse_e s0).trans ht)
/-! spec.ParseHouse -/
noncomputable def c_s_ParseHouse : FnCx := { env := env 15 [(59, S_s_ldParse)] [], body := bodyOf Tryz.f32, res := [.cell 2 26, .tmp 3], ins := [.ro kstring], out := [(kHouse, true), (kbool, true)], T := (List Int × List Int) × Bool, fin := fun r => (r.1.1, r.1.2.1), inj := fun t => ((t.1, t.2, ()), ((), ())), pts := [], fuel := 400, dr := noDr }
noncomputable def s_ParseHouse (s0 : ByteArray) : Option ((List Int × List Int) × Bool) :=
  Option.bind (s_ldParse s0) fun r => bif !Prod.snd r then some (([], []), false) else some ((Prod.fst (Prod.fst r), Prod.snd (Prod.fst r)), true)
theorem s_ParseHouse_e (s0 : ByteArray) : c_s_ParseHouse.start c_s_ParseHouse.L (s0, ()) = s_ParseHouse s0 := by kernel_rfl
noncomputable def F_s_ParseHouse : Ins c_s_ParseHouse.ins → Option ((List Int × List Int) × Bool) := fun x => s_ParseHouse x.1
noncomputable def S_s_ParseHouse : FSpec := mkF c_s_ParseHouse.env.pre c_s_ParseHouse.ins c_s_ParseHouse.out c_s_ParseHouse.inj F_s_ParseHouse
theorem h_s_ParseHouse : Cert Tryz.prog 32 S_s_ParseHouse := FnCx.certF (c := c_s_ParseHouse) F_s_ParseHouse (tyOk _ _ _) (spOk ⟨h_s_ldParse, fun _ _ h => h, trivial⟩) (fun _ _ _ _ _ hs => noDr_ok) Tryz.func32 rfl rfl Tryz.ntmps32 (by kernel_rfl) rfl rfl (fun _ => rfl) trivial (fun x => .inl ⟨c_s_ParseHouse.start () x, fun _ => rfl⟩) (fun x t hb ht => by
  obtain ⟨s0, _⟩ := x
  exact (s_ParseHouse_e s0).trans ht)
/-! laws.wSame -/
noncomputable def c_w_wSame : FnCx := { env := env 26 [] [], body := bodyOf Tryz.f18, res := [.tmp 4], ins := [.ro kSint, .ro kSint], out := [(kbool, true)], T := Bool, fin := fun r => r.1.1, inj := fun t => ((t, ()), ((), (), ())), pts := [([.inLoop [1, 1, 0, 1, 0, 0], .inBlock 0, .code [1, 1, 1]], Shape.mk [Bs.row kint 3 false, Bs.row kint 3 false] [(0, Ss.one (Cs.sl 0)), (1, Ss.one (Cs.sl 1)), (12, Ss.one (Cs.sc kint)), (13, Ss.one (Cs.sc kint))] [Ss.one (Cs.any), Ss.one (Cs.any)])], fuel := 400, dr := evDr (env 26 [] []) }
noncomputable def w_wSame_t1 (g1 : List (Int) → List (Int) → Int → Int → Option (Bool)) (r0 : List (Int)) (r1 : List (Int)) (s12 : Int) (s13 : Int) : Option Bool :=
  bif decide (s13 < s12) then
    bif decide (0 ≤ s13) then
      bif decide (s13 < (↑(List.length r0) : Int)) then
        bif decide (0 ≤ s13) then
          bif decide (s13 < (↑(List.length r1) : Int)) then
            bif rdk kint r0 s13 != rdk kint r1 s13 then some false else g1 r0 r1 s12 (IntKind.wrap IntKind.i64 (s13 + 1))
          else none
        else none
      else none
    else none
  else some true
noncomputable def w_wSame_t0 (g1 : List (Int) → List (Int) → Int → Int → Option (Bool)) (a0 : List Int) (b1 : List Int) : Option Bool :=
  bif (↑(List.length a0) : Int) != (↑(List.length b1) : Int) then some false else g1 a0 b1 (↑(List.length a0) : Int) 0
theorem w_wSame_ts : Tails c_w_wSame.pts c_w_wSame.round :=
  ⟨fun s => by
    obtain ⟨⟨r0, r1, _⟩, ⟨_, _, s12, s13, _⟩, ⟨_, _, _⟩⟩ := s
    refine Tail.eq (Y := fun g => w_wSame_t1 (fun r0 r1 s12 s13 => g.1 ((r0, r1, ()), ((), (), s12, s13, ()), ((), (), ()))) r0 r1 s12 s13) ?_ (fun g => by kernel_rfl)
    simp only [w_wSame_t1]; repeat (first | exact Tail.const _ | exact Tail.here _ | exact Tail.there (Tail.here _) | exact Tail.there (Tail.there (Tail.here _)) | exact Tail.there (Tail.there (Tail.there (Tail.here _))) | exact Tail.there (Tail.there (Tail.there (Tail.there (Tail.here _)))) | exact Tail.there (Tail.there (Tail.there (Tail.there (Tail.there (Tail.here _))))) | apply Tail.cond | (apply Tail.bind; intro _)), trivial⟩
theorem w_wSame_hs : ∀ x, Tail c_w_wSame.pts (fun g => c_w_wSame.start g x) := fun x => by
    obtain ⟨a0, b1, _⟩ := x
    refine Tail.eq (Y := fun g => w_wSame_t0 (fun r0 r1 s12 s13 => g.1 ((r0, r1, ()), ((), (), s12, s13, ()), ((), (), ()))) a0 b1) ?_ (fun g => by kernel_rfl)
    simp only [w_wSame_t0]; repeat (first | exact Tail.const _ | exact Tail.here _ | exact Tail.there (Tail.here _) | exact Tail.there (Tail.there (Tail.here _)) | exact Tail.there (Tail.there (Tail.there (Tail.here _))) | exact Tail.there (Tail.there (Tail.there (Tail.there (Tail.here _)))) | exact Tail.there (Tail.there (Tail.there (Tail.there (Tail.there (Tail.here _))))) | apply Tail.cond | (apply Tail.bind; intro _))
noncomputable def w_wSame_L1 (r0 : List (Int)) (r1 : List (Int)) (s12 : Int) (s13 : Int) : Option Bool := c_w_wSame.L.1 ((r0, r1, ()), ((), (), s12, s13, ()), ((), (), ()))
theorem w_wSame_u1 (r0 : List (Int)) (r1 : List (Int)) (s12 : Int) (s13 : Int) : w_wSame_L1 r0 r1 s12 s13 = w_wSame_t1 w_wSame_L1 r0 r1 s12 s13 :=
  (congrArg (fun g => g.1 ((r0, r1, ()), ((), (), s12, s13, ()), ((), (), ()))) (FnCx.L_eq w_wSame_ts)).trans (by kernel_rfl)
noncomputable def w_wSame (a0 : List Int) (b1 : List Int) : Option Bool := w_wSame_t0 w_wSame_L1 a0 b1
theorem w_wSame_e (a0 : List Int) (b1 : List Int) : c_w_wSame.start c_w_wSame.L (a0, b1, ()) = w_wSame a0 b1 := by kernel_rfl
noncomputable def F_w_wSame : Ins c_w_wSame.ins → Option Bool := fun x => w_wSame x.1 x.2.1
noncomputable def S_w_wSame : FSpec := mkF c_w_wSame.env.pre c_w_wSame.ins c_w_wSame.out c_w_wSame.inj F_w_wSame
theorem h_w_wSame : Cert Tryz.prog 18 S_w_wSame := FnCx.certF (c := c_w_wSame) F_w_wSame (tyOk _ _ _) (spOk trivial) (fun _ _ _ _ _ hs => evDr_ok (tyOk _ _ _) hs follows) Tryz.func18 rfl rfl Tryz.ntmps18 (by kernel_rfl) rfl rfl (fun _ => rfl) w_wSame_ts w_wSame_hs (fun x t hb ht => by
  obtain ⟨a0, b1, _⟩ := x
  exact (w_wSame_e a0 b1).trans ht)
/-! laws.wRises -/
noncomputable def c_w_wRises : FnCx := { env := env 20 [] [], body := bodyOf Tryz.f22, res := [.tmp 2], ins := [.ro kSint], out := [(kbool, true)], T := Bool, fin := fun r => r.1.1, inj := fun t => ((t, ()), ((), ())), pts := [([.inLoop [1, 0, 1, 0, 0], .inBlock 0, .code [1, 1]], Shape.mk [Bs.row kint 3 false] [(0, Ss.one (Cs.sl 0)), (3, Ss.one (Cs.sc kint))] [Ss.one (Cs.any)])], fuel := 400, dr := evDr (env 20 [] []) }
noncomputable def w_wRises_t1 (g1 : List (Int) → Int → Option (Bool)) (r0 : List (Int)) (i3 : Int) : Option Bool :=
  bif decide (i3 < (↑(List.length r0) : Int)) then
    bif decide (0 ≤ IntKind.wrap IntKind.i64 (i3 - 1)) then
      bif decide (IntKind.wrap IntKind.i64 (i3 - 1) < (↑(List.length r0) : Int)) then
        bif decide (0 ≤ i3) then
          bif decide (i3 < (↑(List.length r0) : Int)) then
            bif decide (rdk kint r0 (IntKind.wrap IntKind.i64 (i3 - 1)) ≥ rdk kint r0 i3) then some false
            else g1 r0 (IntKind.wrap IntKind.i64 (i3 + 1))
          else none
        else none
      else none
    else none
  else some true
noncomputable def w_wRises_t0 (g1 : List (Int) → Int → Option (Bool)) (a0 : List Int) : Option Bool :=
  g1 a0 1
theorem w_wRises_ts : Tails c_w_wRises.pts c_w_wRises.round :=
  ⟨fun s => by
    obtain ⟨⟨r0, _⟩, ⟨_, i3, _⟩, ⟨_, _⟩⟩ := s
    refine Tail.eq (Y := fun g => w_wRises_t1 (fun r0 i3 => g.1 ((r0, ()), ((), i3, ()), ((), ()))) r0 i3) ?_ (fun g => by kernel_rfl)
    simp only [w_wRises_t1]; repeat (first | exact Tail.const _ | exact Tail.here _ | exact Tail.there (Tail.here _) | exact Tail.there (Tail.there (Tail.here _)) | exact Tail.there (Tail.there (Tail.there (Tail.here _))) | exact Tail.there (Tail.there (Tail.there (Tail.there (Tail.here _)))) | exact Tail.there (Tail.there (Tail.there (Tail.there (Tail.there (Tail.here _))))) | apply Tail.cond | (apply Tail.bind; intro _)), trivial⟩
theorem w_wRises_hs : ∀ x, Tail c_w_wRises.pts (fun g => c_w_wRises.start g x) := fun x => by
    obtain ⟨a0, _⟩ := x
    refine Tail.eq (Y := fun g => w_wRises_t0 (fun r0 i3 => g.1 ((r0, ()), ((), i3, ()), ((), ()))) a0) ?_ (fun g => by kernel_rfl)
    simp only [w_wRises_t0]; repeat (first | exact Tail.const _ | exact Tail.here _ | exact Tail.there (Tail.here _) | exact Tail.there (Tail.there (Tail.here _)) | exact Tail.there (Tail.there (Tail.there (Tail.here _))) | exact Tail.there (Tail.there (Tail.there (Tail.there (Tail.here _)))) | exact Tail.there (Tail.there (Tail.there (Tail.there (Tail.there (Tail.here _))))) | apply Tail.cond | (apply Tail.bind; intro _))
noncomputable def w_wRises_L1 (r0 : List (Int)) (i3 : Int) : Option Bool := c_w_wRises.L.1 ((r0, ()), ((), i3, ()), ((), ()))
theorem w_wRises_u1 (r0 : List (Int)) (i3 : Int) : w_wRises_L1 r0 i3 = w_wRises_t1 w_wRises_L1 r0 i3 :=
  (congrArg (fun g => g.1 ((r0, ()), ((), i3, ()), ((), ()))) (FnCx.L_eq w_wRises_ts)).trans (by kernel_rfl)
noncomputable def w_wRises (a0 : List Int) : Option Bool := w_wRises_t0 w_wRises_L1 a0
theorem w_wRises_e (a0 : List Int) : c_w_wRises.start c_w_wRises.L (a0, ()) = w_wRises a0 := by kernel_rfl
noncomputable def F_w_wRises : Ins c_w_wRises.ins → Option Bool := fun x => w_wRises x.1
noncomputable def S_w_wRises : FSpec := mkF c_w_wRises.env.pre c_w_wRises.ins c_w_wRises.out c_w_wRises.inj F_w_wRises
theorem h_w_wRises : Cert Tryz.prog 22 S_w_wRises := FnCx.certF (c := c_w_wRises) F_w_wRises (tyOk _ _ _) (spOk trivial) (fun _ _ _ _ _ hs => evDr_ok (tyOk _ _ _) hs follows) Tryz.func22 rfl rfl Tryz.ntmps22 (by kernel_rfl) rfl rfl (fun _ => rfl) w_wRises_ts w_wRises_hs (fun x t hb ht => by
  obtain ⟨a0, _⟩ := x
  exact (w_wRises_e a0).trans ht)
/-! laws.wHas -/
noncomputable def c_w_wHas : FnCx := { env := env 17 [] [], body := bodyOf Tryz.f33, res := [.tmp 4], ins := [.ro kSint, .ro kint], out := [(kbool, true)], T := Bool, fin := fun r => r.1.1, inj := fun t => ((t, ()), ((), (), ())), pts := [([.inLoop [1, 0, 1, 0, 0], .inBlock 0, .code [1, 1]], Shape.mk [Bs.row kint 3 false] [(1, Ss.one (Cs.sc kint)), (7, Ss.one (Cs.sl 0)), (8, Ss.one (Cs.sc kint)), (9, Ss.one (Cs.sc kint))] [Ss.one (Cs.any), Ss.one (Cs.any)])], fuel := 400, dr := noDr }
noncomputable def w_wHas_t1 (g1 : List (Int) → Int → Int → Int → Option (Bool)) (r0 : List (Int)) (n1 : Int) (s8 : Int) (s9 : Int) : Option Bool :=
  bif decide (s9 < s8) then
    bif decide (0 ≤ s9) then
      bif decide (s9 < (↑(List.length r0) : Int)) then
        bif rdk kint r0 s9 == n1 then some true else g1 r0 n1 s8 (IntKind.wrap IntKind.i64 (s9 + 1))
      else none
    else none
  else some false
noncomputable def w_wHas_t0 (g1 : List (Int) → Int → Int → Int → Option (Bool)) (a0 : List Int) (n1 : Int) : Option Bool :=
  g1 a0 n1 (↑(List.length a0) : Int) 0
theorem w_wHas_ts : Tails c_w_wHas.pts c_w_wHas.round :=
  ⟨fun s => by
    obtain ⟨⟨r0, _⟩, ⟨n1, _, s8, s9, _⟩, ⟨_, _, _⟩⟩ := s
    refine Tail.eq (Y := fun g => w_wHas_t1 (fun r0 n1 s8 s9 => g.1 ((r0, ()), (n1, (), s8, s9, ()), ((), (), ()))) r0 n1 s8 s9) ?_ (fun g => by kernel_rfl)
    simp only [w_wHas_t1]; repeat (first | exact Tail.const _ | exact Tail.here _ | exact Tail.there (Tail.here _) | exact Tail.there (Tail.there (Tail.here _)) | exact Tail.there (Tail.there (Tail.there (Tail.here _))) | exact Tail.there (Tail.there (Tail.there (Tail.there (Tail.here _)))) | exact Tail.there (Tail.there (Tail.there (Tail.there (Tail.there (Tail.here _))))) | apply Tail.cond | (apply Tail.bind; intro _)), trivial⟩
theorem w_wHas_hs : ∀ x, Tail c_w_wHas.pts (fun g => c_w_wHas.start g x) := fun x => by
    obtain ⟨a0, n1, _⟩ := x
    refine Tail.eq (Y := fun g => w_wHas_t0 (fun r0 n1 s8 s9 => g.1 ((r0, ()), (n1, (), s8, s9, ()), ((), (), ()))) a0 n1) ?_ (fun g => by kernel_rfl)
    simp only [w_wHas_t0]; repeat (first | exact Tail.const _ | exact Tail.here _ | exact Tail.there (Tail.here _) | exact Tail.there (Tail.there (Tail.here _)) | exact Tail.there (Tail.there (Tail.there (Tail.here _))) | exact Tail.there (Tail.there (Tail.there (Tail.there (Tail.here _)))) | exact Tail.there (Tail.there (Tail.there (Tail.there (Tail.there (Tail.here _))))) | apply Tail.cond | (apply Tail.bind; intro _))
noncomputable def w_wHas_L1 (r0 : List (Int)) (n1 : Int) (s8 : Int) (s9 : Int) : Option Bool := c_w_wHas.L.1 ((r0, ()), (n1, (), s8, s9, ()), ((), (), ()))
theorem w_wHas_u1 (r0 : List (Int)) (n1 : Int) (s8 : Int) (s9 : Int) : w_wHas_L1 r0 n1 s8 s9 = w_wHas_t1 w_wHas_L1 r0 n1 s8 s9 :=
  (congrArg (fun g => g.1 ((r0, ()), (n1, (), s8, s9, ()), ((), (), ()))) (FnCx.L_eq w_wHas_ts)).trans (by kernel_rfl)
noncomputable def w_wHas (a0 : List Int) (n1 : Int) : Option Bool := w_wHas_t0 w_wHas_L1 a0 n1
theorem w_wHas_e (a0 : List Int) (n1 : Int) : c_w_wHas.start c_w_wHas.L (a0, n1, ()) = w_wHas a0 n1 := by kernel_rfl
noncomputable def F_w_wHas : Ins c_w_wHas.ins → Option Bool := fun x => w_wHas x.1 x.2.1
noncomputable def S_w_wHas : FSpec := mkF c_w_wHas.env.pre c_w_wHas.ins c_w_wHas.out c_w_wHas.inj F_w_wHas
theorem h_w_wHas : Cert Tryz.prog 33 S_w_wHas := FnCx.certF (c := c_w_wHas) F_w_wHas (tyOk _ _ _) (spOk trivial) (fun _ _ _ _ _ hs => noDr_ok) Tryz.func33 rfl rfl Tryz.ntmps33 (by kernel_rfl) rfl rfl (fun _ => rfl) w_wHas_ts w_wHas_hs (fun x t hb ht => by
  obtain ⟨a0, n1, _⟩ := x
  exact (w_wHas_e a0 n1).trans ht)
/-! laws.wSum -/
noncomputable def c_w_wSum : FnCx := { env := env 17 [] [], body := bodyOf Tryz.f25, res := [.tmp 2], ins := [.ro kSint], out := [(kint, true)], T := Int, fin := fun r => r.1.1, inj := fun t => ((t, ()), ((), ())), pts := [([.inLoop [1, 1, 0, 1, 0, 0], .inBlock 0, .code [1, 1, 1]], Shape.mk [Bs.row kint 3 false] [(3, Ss.one (Cs.sc kint)), (6, Ss.one (Cs.sl 0)), (7, Ss.one (Cs.sc kint)), (8, Ss.one (Cs.sc kint))] [Ss.one (Cs.any)])], fuel := 400, dr := noDr }
noncomputable def w_wSum_t1 (g1 : List (Int) → Int → Int → Int → Option (Int)) (r0 : List (Int)) (n3 : Int) (s7 : Int) (s8 : Int) : Option Int :=
  bif decide (s8 < s7) then
    bif decide (0 ≤ s8) then
      bif decide (s8 < (↑(List.length r0) : Int)) then
        g1 r0 (IntKind.wrap IntKind.i64 (n3 + rdk kint r0 s8)) s7 (IntKind.wrap IntKind.i64 (s8 + 1))
      else none
    else none
  else some n3
noncomputable def w_wSum_t0 (g1 : List (Int) → Int → Int → Int → Option (Int)) (a0 : List Int) : Option Int :=
  g1 a0 0 (↑(List.length a0) : Int) 0
theorem w_wSum_ts : Tails c_w_wSum.pts c_w_wSum.round :=
  ⟨fun s => by
    obtain ⟨⟨r0, _⟩, ⟨n3, _, s7, s8, _⟩, ⟨_, _⟩⟩ := s
    refine Tail.eq (Y := fun g => w_wSum_t1 (fun r0 n3 s7 s8 => g.1 ((r0, ()), (n3, (), s7, s8, ()), ((), ()))) r0 n3 s7 s8) ?_ (fun g => by kernel_rfl)
    simp only [w_wSum_t1]; repeat (first | exact Tail.const _ | exact Tail.here _ | exact Tail.there (Tail.here _) | exact Tail.there (Tail.there (Tail.here _)) | exact Tail.there (Tail.there (Tail.there (Tail.here _))) | exact Tail.there (Tail.there (Tail.there (Tail.there (Tail.here _)))) | exact Tail.there (Tail.there (Tail.there (Tail.there (Tail.there (Tail.here _))))) | apply Tail.cond | (apply Tail.bind; intro _)), trivial⟩
theorem w_wSum_hs : ∀ x, Tail c_w_wSum.pts (fun g => c_w_wSum.start g x) := fun x => by
    obtain ⟨a0, _⟩ := x
    refine Tail.eq (Y := fun g => w_wSum_t0 (fun r0 n3 s7 s8 => g.1 ((r0, ()), (n3, (), s7, s8, ()), ((), ()))) a0) ?_ (fun g => by kernel_rfl)
    simp only [w_wSum_t0]; repeat (first | exact Tail.const _ | exact Tail.here _ | exact Tail.there (Tail.here _) | exact Tail.there (Tail.there (Tail.here _)) | exact Tail.there (Tail.there (Tail.there (Tail.here _))) | exact Tail.there (Tail.there (Tail.there (Tail.there (Tail.here _)))) | exact Tail.there (Tail.there (Tail.there (Tail.there (Tail.there (Tail.here _))))) | apply Tail.cond | (apply Tail.bind; intro _))
noncomputable def w_wSum_L1 (r0 : List (Int)) (n3 : Int) (s7 : Int) (s8 : Int) : Option Int := c_w_wSum.L.1 ((r0, ()), (n3, (), s7, s8, ()), ((), ()))
theorem w_wSum_u1 (r0 : List (Int)) (n3 : Int) (s7 : Int) (s8 : Int) : w_wSum_L1 r0 n3 s7 s8 = w_wSum_t1 w_wSum_L1 r0 n3 s7 s8 :=
  (congrArg (fun g => g.1 ((r0, ()), (n3, (), s7, s8, ()), ((), ()))) (FnCx.L_eq w_wSum_ts)).trans (by kernel_rfl)
noncomputable def w_wSum (a0 : List Int) : Option Int := w_wSum_t0 w_wSum_L1 a0
theorem w_wSum_e (a0 : List Int) : c_w_wSum.start c_w_wSum.L (a0, ()) = w_wSum a0 := by kernel_rfl
noncomputable def F_w_wSum : Ins c_w_wSum.ins → Option Int := fun x => w_wSum x.1
noncomputable def S_w_wSum : FSpec := mkF c_w_wSum.env.pre c_w_wSum.ins c_w_wSum.out c_w_wSum.inj F_w_wSum
theorem h_w_wSum : Cert Tryz.prog 25 S_w_wSum := FnCx.certF (c := c_w_wSum) F_w_wSum (tyOk _ _ _) (spOk trivial) (fun _ _ _ _ _ hs => noDr_ok) Tryz.func25 rfl rfl Tryz.ntmps25 (by kernel_rfl) rfl rfl (fun _ => rfl) w_wSum_ts w_wSum_hs (fun x t hb ht => by
  obtain ⟨a0, _⟩ := x
  exact (w_wSum_e a0).trans ht)
/-! laws.wHouse -/
noncomputable def c_w_wHouse : FnCx := { env := env 17 [(18, S_w_wSame)] [], body := bodyOf Tryz.f19, res := [.tmp 4], ins := [.ro kHouse, .ro kHouse], out := [(kbool, true)], T := Bool, fin := fun r => r.1.1, inj := fun t => ((t, ()), ((), (), ())), pts := [], fuel := 400, dr := noDr }
noncomputable def w_wHouse (a0_Stairs : List Int) (a0_Doors : List Int) (b1_Stairs : List Int) (b1_Doors : List Int) : Option Bool :=
  Option.bind (w_wSame a0_Stairs b1_Stairs) fun r => bif r then Option.bind (w_wSame a0_Doors b1_Doors) fun r => some r else some false
theorem w_wHouse_e (a0_Stairs : List Int) (a0_Doors : List Int) (b1_Stairs : List Int) (b1_Doors : List Int) : c_w_wHouse.start c_w_wHouse.L ((a0_Stairs, a0_Doors), (b1_Stairs, b1_Doors), ()) = w_wHouse a0_Stairs a0_Doors b1_Stairs b1_Doors := by kernel_rfl
noncomputable def F_w_wHouse : Ins c_w_wHouse.ins → Option Bool := fun x => w_wHouse x.1.1 x.1.2 x.2.1.1 x.2.1.2
noncomputable def S_w_wHouse : FSpec := mkF c_w_wHouse.env.pre c_w_wHouse.ins c_w_wHouse.out c_w_wHouse.inj F_w_wHouse
theorem h_w_wHouse : Cert Tryz.prog 19 S_w_wHouse := FnCx.certF (c := c_w_wHouse) F_w_wHouse (tyOk _ _ _) (spOk ⟨h_w_wSame, fun _ _ h => h, trivial⟩) (fun _ _ _ _ _ hs => noDr_ok) Tryz.func19 rfl rfl Tryz.ntmps19 (by kernel_rfl) rfl rfl (fun _ => rfl) trivial (fun x => .inl ⟨c_w_wHouse.start () x, fun _ => rfl⟩) (fun x t hb ht => by
  obtain ⟨⟨a0_Stairs, a0_Doors⟩, ⟨b1_Stairs, b1_Doors⟩, _⟩ := x
  exact (w_wHouse_e a0_Stairs a0_Doors b1_Stairs b1_Doors).trans ht)
end Go.Proofs.YtmiimfpdlkmjhaaGreatDoor.V
