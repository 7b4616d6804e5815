/- Functions of the program, as plain functions. No condition. -/
import Derived.Test.YtinmfblemgkboaaA4
set_option linter.unusedVariables false
set_option linter.unusedSimpArgs false
set_option maxRecDepth 100000
namespace Go.Proofs.Ytinmfblemgkboaa.V
open Go Go.Ev Go.Proofs
/-! spec.MendStep -/
noncomputable def c_s_MendStep : FnCx := { env := env 44 [(113, S_s_clGood), (122, S_s_l1Has), (114, S_s_l1Own)] [], body := bodyOf Try.f39, res := [.cell 4 30, .tmp 5], ins := [.ro kStairs, .ro kint], out := [(kStairs, true), (kbool, true)], T := (Int × List Int × List Int) × Bool, fin := fun r => (r.1.1, r.1.2.1), inj := fun t => ((t.1, t.2, ()), ((), (), ())), pts := [([.inLoop [1, 1, 1, 0, 1, 0, 0], .inBlock 0, .code [1, 1, 1, 1]], Shape.mk [Bs.box 30 [Cs.sc kint, Cs.sl 3, Cs.sl 4], Bs.box 30 [Cs.sc kint, Cs.sl 5, Cs.sl 6], Bs.row kint 3 false, Bs.row kint 3 true, Bs.row kint 3 true, Bs.row kint 3 true, Bs.row kint 3 true] [(1, Ss.one (Cs.sc kint)), (4, Ss.one (Cs.ptr 0 0)), (6, Ss.one (Cs.ptr 1 0)), (27, Ss.one (Cs.sl 2)), (28, Ss.one (Cs.sc kint)), (29, Ss.one (Cs.sc kint))] [Ss.one (Cs.any), Ss.one (Cs.any)])], fuel := 400, dr := evDr (env 44 [(113, S_s_clGood), (122, S_s_l1Has), (114, S_s_l1Own)] []) }
noncomputable def s_MendStep_t1 (g1 : Int → Int → List (Int) → List (Int) → List (Int) → List (Int) → List (Int) → Int → Int → Int → Option ((Int × List Int × List Int) × Bool)) (b0_0 : Int) (b1_0 : Int) (r2 : List (Int)) (r3 : List (Int)) (r4 : List (Int)) (r5 : List (Int)) (r6 : List (Int)) (step1 : Int) (s28 : Int) (s29 : Int) : Option ((Int × List Int × List Int) × Bool) :=
  bif decide (s29 < s28) then
    bif decide (0 ≤ s29) then
      bif decide (s29 < (↑(List.length r2) : Int)) then
        bif rdk kint r2 s29 != step1 then
          bif Nat.ble (List.length r6 + 1) 4294967296 then
            g1 b0_0 b1_0 r2 r3 r4 r5 (r6 ++ [rdk kint r2 s29]) step1 s28 (IntKind.wrap IntKind.i64 (s29 + 1))
          else none
        else g1 b0_0 b1_0 r2 r3 r4 r5 r6 step1 s28 (IntKind.wrap IntKind.i64 (s29 + 1))
      else none
    else none
  else some ((b1_0, r5, r6), true)
noncomputable def s_MendStep_t0 (g1 : Int → Int → List (Int) → List (Int) → List (Int) → List (Int) → List (Int) → Int → Int → Int → Option ((Int × List Int × List Int) × Bool)) (s0_Steps : Int) (s0_Strides : List Int) (s0_Broken : List Int) (step1 : Int) : Option ((Int × List Int × List Int) × Bool) :=
  bif !s_clGood s0_Steps s0_Strides s0_Broken then some ((0, [], []), false)
  else
    bif !s_l1Has_n s0_Broken step1 then some ((0, [], []), false)
    else Option.bind (s_l1Own_n s0_Strides) fun r => g1 0 s0_Steps s0_Broken [] [] r [] step1 (↑(List.length s0_Broken) : Int) 0
theorem s_MendStep_ts : Tails c_s_MendStep.pts c_s_MendStep.round :=
  ⟨fun s => by
    obtain ⟨⟨⟨b0_0, _, _, _⟩, ⟨b1_0, _, _, _⟩, r2, r3, r4, r5, r6, _⟩, ⟨step1, _, _, _, s28, s29, _⟩, ⟨_, _, _⟩⟩ := s
    refine Tail.eq (Y := fun g => s_MendStep_t1 (fun b0_0 b1_0 r2 r3 r4 r5 r6 step1 s28 s29 => g.1 (((b0_0, (), (), ()), (b1_0, (), (), ()), r2, r3, r4, r5, r6, ()), (step1, (), (), (), s28, s29, ()), ((), (), ()))) b0_0 b1_0 r2 r3 r4 r5 r6 step1 s28 s29) ?_ (fun g => by kernel_rfl)
    simp only [s_MendStep_t1]; repeat (first | exact Tail.const _ | exact Tail.here _ | exact Tail.there (Tail.here _) | exact Tail.there (Tail.there (Tail.here _)) | exact Tail.there (Tail.there (Tail.there (Tail.here _))) | exact Tail.there (Tail.there (Tail.there (Tail.there (Tail.here _)))) | exact Tail.there (Tail.there (Tail.there (Tail.there (Tail.there (Tail.here _))))) | apply Tail.cond | (apply Tail.bind; intro _)), trivial⟩
theorem s_MendStep_hs : ∀ x, Tail c_s_MendStep.pts (fun g => c_s_MendStep.start g x) := fun x => by
    obtain ⟨⟨s0_Steps, s0_Strides, s0_Broken⟩, step1, _⟩ := x
    refine Tail.eq (Y := fun g => s_MendStep_t0 (fun b0_0 b1_0 r2 r3 r4 r5 r6 step1 s28 s29 => g.1 (((b0_0, (), (), ()), (b1_0, (), (), ()), r2, r3, r4, r5, r6, ()), (step1, (), (), (), s28, s29, ()), ((), (), ()))) s0_Steps s0_Strides s0_Broken step1) ?_ (fun g => by kernel_rfl)
    simp only [s_MendStep_t0]; repeat (first | exact Tail.const _ | exact Tail.here _ | exact Tail.there (Tail.here _) | exact Tail.there (Tail.there (Tail.here _)) | exact Tail.there (Tail.there (Tail.there (Tail.here _))) | exact Tail.there (Tail.there (Tail.there (Tail.there (Tail.here _)))) | exact Tail.there (Tail.there (Tail.there (Tail.there (Tail.there (Tail.here _))))) | apply Tail.cond | (apply Tail.bind; intro _))
noncomputable def s_MendStep_L1 (b0_0 : Int) (b1_0 : Int) (r2 : List (Int)) (r3 : List (Int)) (r4 : List (Int)) (r5 : List (Int)) (r6 : List (Int)) (step1 : Int) (s28 : Int) (s29 : Int) : Option ((Int × List Int × List Int) × Bool) := c_s_MendStep.L.1 (((b0_0, (), (), ()), (b1_0, (), (), ()), r2, r3, r4, r5, r6, ()), (step1, (), (), (), s28, s29, ()), ((), (), ()))
theorem s_MendStep_u1 (b0_0 : Int) (b1_0 : Int) (r2 : List (Int)) (r3 : List (Int)) (r4 : List (Int)) (r5 : List (Int)) (r6 : List (Int)) (step1 : Int) (s28 : Int) (s29 : Int) : s_MendStep_L1 b0_0 b1_0 r2 r3 r4 r5 r6 step1 s28 s29 = s_MendStep_t1 s_MendStep_L1 b0_0 b1_0 r2 r3 r4 r5 r6 step1 s28 s29 :=
  (congrArg (fun g => g.1 (((b0_0, (), (), ()), (b1_0, (), (), ()), r2, r3, r4, r5, r6, ()), (step1, (), (), (), s28, s29, ()), ((), (), ()))) (FnCx.L_eq s_MendStep_ts)).trans (by kernel_rfl)
noncomputable def s_MendStep (s0_Steps : Int) (s0_Strides : List Int) (s0_Broken : List Int) (step1 : Int) : Option ((Int × List Int × List Int) × Bool) := s_MendStep_t0 s_MendStep_L1 s0_Steps s0_Strides s0_Broken step1
theorem s_MendStep_e (s0_Steps : Int) (s0_Strides : List Int) (s0_Broken : List Int) (step1 : Int) : c_s_MendStep.start c_s_MendStep.L ((s0_Steps, s0_Strides, s0_Broken), step1, ()) = s_MendStep s0_Steps s0_Strides s0_Broken step1 := by kernel_rfl
-- NICE tot
noncomputable def s_MendStep_n (a : Int) (b c : List Int) (k : Int) : (Int × List Int × List Int) × Bool := bif s_clGood a b c && decide (k ∈ c) then ((a, b, c.filter fun x => !(x == k)), true) else ((0, [], []), false)
theorem s_MendStep_ok (a : Int) (b c : List Int) (k : Int) (hb : BdI c_s_MendStep.ins ((a, b, c), k, ())) : s_MendStep a b c k = some (s_MendStep_n a b c k) := by
  unfold s_MendStep s_MendStep_t0 s_MendStep_n s_l1Has_n
  cases hg : s_clGood a b c
  · rfl
  · have hl := s_clGood_len hg
    have hm : c.length ≤ maxLen := by rw [maxLen_eq]; omega
    cases hk : decide (k ∈ c)
    · rfl
    · have ho : s_l1Own_n b = some b := by
        unfold s_l1Own_n
        rw [decide_eq_true (by omega : b.length ≤ 4294967296)]; rfl
      have e : ∀ r : List Int, r.length ≤ 0 → s_MendStep_L1 0 a c [] [] b r k c.length ((0 : Nat) : Int) = some ((a, b, r ++ c.filter fun x => !(x == k)), true) := by
        refine drop_ind c (fun i l => ∀ r : List Int, r.length ≤ i → s_MendStep_L1 0 a c [] [] b r k c.length (i : Int) = some ((a, b, r ++ l.filter fun x => !(x == k)), true)) (fun r _ => by simp [s_MendStep_u1 0 a c [] [] b r k c.length c.length, s_MendStep_t1]) (fun i h ih r hr => ?_)
        have h32 : r.length + 1 ≤ 4294967296 := by omega
        simp only [s_MendStep_u1 0 a c [] [] b r k c.length i, s_MendStep_t1, rdk_get (k := kint) h, wrapS h hm, ble_dec, decide_eq_true h32, bne]
        cases hx : c[i] == k
        · have := ih (r ++ [c[i]]) (by simp; omega)
          rw [List.filter_cons_of_pos (by rw [hx]; rfl)]
          simp [h]
          simpa using this
        · have := ih r (by omega)
          rw [List.filter_cons_of_neg (by rw [hx]; simp)]
          simp [h]
          simpa using this
      have := e [] (Nat.le_refl _)
      simp only [ho, Bool.not_true, cond_false, Option.bind_some, Bool.and_true, cond_true]
      simpa using this
noncomputable def F_s_MendStep : Ins c_s_MendStep.ins → ((Int × List Int × List Int) × Bool) := fun x => s_MendStep_n x.1.1 x.1.2.1 x.1.2.2 x.2.1
noncomputable def S_s_MendStep : FSpec := mkT c_s_MendStep.env.pre c_s_MendStep.ins c_s_MendStep.out c_s_MendStep.inj F_s_MendStep
theorem h_s_MendStep : Cert Try.prog 39 S_s_MendStep := FnCx.certT (c := c_s_MendStep) F_s_MendStep (tyOk _ _ _) (spOk ⟨h_s_clGood, fun _ _ _ => trivial, ⟨h_s_l1Has, fun _ _ _ => trivial, ⟨h_s_l1Own, fun _ _ _ => trivial, trivial⟩⟩⟩) (fun _ _ _ _ _ hs => evDr_ok (tyOk _ _ _) hs follows) Try.func39 rfl rfl Try.ntmps39 (by kernel_rfl) rfl rfl (fun _ => rfl) s_MendStep_ts s_MendStep_hs (fun x hb => by
  obtain ⟨⟨s0_Steps, s0_Strides, s0_Broken⟩, step1, _⟩ := x
  exact (s_MendStep_e s0_Steps s0_Strides s0_Broken step1).trans (s_MendStep_ok s0_Steps s0_Strides s0_Broken step1 hb))
/-! impl.MendStep$1 -/
noncomputable def c_i_MendStep_c1 : FnCx := { env := env 7 [] [], body := bodyOf Try.f125, res := [.tmp 3], ins := [.ro kint, .ptr 3 kint], out := [(kbool, true)], T := Bool × Int, fin := fun r => (r.1.1, r.2.2.1), inj := fun t => ((t.1, ()), ((), t.2, ())), pts := [], fuel := 400, dr := noDr }
noncomputable def i_MendStep_c1 (k0 : Int) (x1 : Int) : (Bool × Int) :=
  (k0 == x1, x1)
theorem i_MendStep_c1_e (k0 : Int) (x1 : Int) : c_i_MendStep_c1.start c_i_MendStep_c1.L (k0, x1, ()) = some (i_MendStep_c1 k0 x1) := by kernel_rfl
noncomputable def F_i_MendStep_c1 : Ins c_i_MendStep_c1.ins → (Bool × Int) := fun x => ((i_MendStep_c1 x.1 x.2.1).1, x.2.1)
noncomputable def S_i_MendStep_c1 : FSpec := mkT c_i_MendStep_c1.env.pre c_i_MendStep_c1.ins c_i_MendStep_c1.out c_i_MendStep_c1.inj F_i_MendStep_c1
theorem h_i_MendStep_c1 : Cert Try.prog 125 S_i_MendStep_c1 := FnCx.certT (c := c_i_MendStep_c1) F_i_MendStep_c1 (tyOk _ _ _) (spOk trivial) (fun _ _ _ _ _ hs => noDr_ok) Try.func125 rfl rfl Try.ntmps125 (by kernel_rfl) rfl rfl (fun _ => rfl) trivial (fun x => .inl ⟨c_i_MendStep_c1.start () x, fun _ => rfl⟩) (fun x hb => by
  obtain ⟨k0, x1, _⟩ := x
  exact (i_MendStep_c1_e k0 x1).trans rfl)
/-! slices.IndexFunc[[]int,int] -/
noncomputable def c_slices_IndexFunc_int__i_MendStep_c1 : FnCx := { env := env 19 [(125, S_i_MendStep_c1)] [], body := bodyOf Try.f177, res := [.tmp 4], ins := [.ro kSint, .fn 125 [(3, kint)]], out := [(kint, true)], T := Int × Int, fin := fun r => (r.1.1, r.2.2.1.1), inj := fun t => ((t.1, ()), ((), (t.2, ()), ())), pts := [([.inLoop [1, 0, 1, 0, 0], .inBlock 0, .code [1, 1]], Shape.mk [Bs.row kint 3 false, Bs.box 3 [Cs.sc kint]] [(0, Ss.one (Cs.sl 0)), (1, Ss.fn 125 [Cs.ptr 1 0]), (7, Ss.one (Cs.sc kint)), (8, Ss.one (Cs.sc kint))] [Ss.one (Cs.any), Ss.fn 125 [Cs.ptr 1 0]])], fuel := 400, dr := noDr }
noncomputable def slices_IndexFunc_int__i_MendStep_c1_t1 (g1 : List (Int) → Int → Int → Int → Option (Int × Int)) (r0 : List (Int)) (b1_0 : Int) (s7 : Int) (s8 : Int) : Option (Int × Int) :=
  bif decide (s8 < s7) then
    bif decide (0 ≤ s8) then
      bif decide (s8 < (↑(List.length r0) : Int)) then
        bif rdk kint r0 s8 == b1_0 then some (s8, b1_0) else g1 r0 b1_0 s7 (IntKind.wrap IntKind.i64 (s8 + 1))
      else none
    else none
  else some (-1, b1_0)
noncomputable def slices_IndexFunc_int__i_MendStep_c1_t0 (g1 : List (Int) → Int → Int → Int → Option (Int × Int)) (s0 : List Int) (f1_0 : Int) : Option (Int × Int) :=
  g1 s0 f1_0 (↑(List.length s0) : Int) 0
theorem slices_IndexFunc_int__i_MendStep_c1_ts : Tails c_slices_IndexFunc_int__i_MendStep_c1.pts c_slices_IndexFunc_int__i_MendStep_c1.round :=
  ⟨fun s => by
    obtain ⟨⟨r0, ⟨b1_0, _⟩, _⟩, ⟨_, ⟨_, _⟩, s7, s8, _⟩, ⟨_, ⟨_, _⟩, _⟩⟩ := s
    refine Tail.eq (Y := fun g => slices_IndexFunc_int__i_MendStep_c1_t1 (fun r0 b1_0 s7 s8 => g.1 ((r0, (b1_0, ()), ()), ((), ((), ()), s7, s8, ()), ((), ((), ()), ()))) r0 b1_0 s7 s8) ?_ (fun g => by kernel_rfl)
    simp only [slices_IndexFunc_int__i_MendStep_c1_t1]; repeat (first | exact Tail.const _ | exact Tail.here _ | exact Tail.there (Tail.here _) | exact Tail.there (Tail.there (Tail.here _)) | exact Tail.there (Tail.there (Tail.there (Tail.here _))) | exact Tail.there (Tail.there (Tail.there (Tail.there (Tail.here _)))) | exact Tail.there (Tail.there (Tail.there (Tail.there (Tail.there (Tail.here _))))) | apply Tail.cond | (apply Tail.bind; intro _)), trivial⟩
theorem slices_IndexFunc_int__i_MendStep_c1_hs : ∀ x, Tail c_slices_IndexFunc_int__i_MendStep_c1.pts (fun g => c_slices_IndexFunc_int__i_MendStep_c1.start g x) := fun x => by
    obtain ⟨s0, ⟨f1_0, _⟩, _⟩ := x
    refine Tail.eq (Y := fun g => slices_IndexFunc_int__i_MendStep_c1_t0 (fun r0 b1_0 s7 s8 => g.1 ((r0, (b1_0, ()), ()), ((), ((), ()), s7, s8, ()), ((), ((), ()), ()))) s0 f1_0) ?_ (fun g => by kernel_rfl)
    simp only [slices_IndexFunc_int__i_MendStep_c1_t0]; repeat (first | exact Tail.const _ | exact Tail.here _ | exact Tail.there (Tail.here _) | exact Tail.there (Tail.there (Tail.here _)) | exact Tail.there (Tail.there (Tail.there (Tail.here _))) | exact Tail.there (Tail.there (Tail.there (Tail.there (Tail.here _)))) | exact Tail.there (Tail.there (Tail.there (Tail.there (Tail.there (Tail.here _))))) | apply Tail.cond | (apply Tail.bind; intro _))
noncomputable def slices_IndexFunc_int__i_MendStep_c1_L1 (r0 : List (Int)) (b1_0 : Int) (s7 : Int) (s8 : Int) : Option (Int × Int) := c_slices_IndexFunc_int__i_MendStep_c1.L.1 ((r0, (b1_0, ()), ()), ((), ((), ()), s7, s8, ()), ((), ((), ()), ()))
theorem slices_IndexFunc_int__i_MendStep_c1_u1 (r0 : List (Int)) (b1_0 : Int) (s7 : Int) (s8 : Int) : slices_IndexFunc_int__i_MendStep_c1_L1 r0 b1_0 s7 s8 = slices_IndexFunc_int__i_MendStep_c1_t1 slices_IndexFunc_int__i_MendStep_c1_L1 r0 b1_0 s7 s8 :=
  (congrArg (fun g => g.1 ((r0, (b1_0, ()), ()), ((), ((), ()), s7, s8, ()), ((), ((), ()), ()))) (FnCx.L_eq slices_IndexFunc_int__i_MendStep_c1_ts)).trans (by kernel_rfl)
noncomputable def slices_IndexFunc_int__i_MendStep_c1 (s0 : List Int) (f1_0 : Int) : Option (Int × Int) := slices_IndexFunc_int__i_MendStep_c1_t0 slices_IndexFunc_int__i_MendStep_c1_L1 s0 f1_0
theorem slices_IndexFunc_int__i_MendStep_c1_e (s0 : List Int) (f1_0 : Int) : c_slices_IndexFunc_int__i_MendStep_c1.start c_slices_IndexFunc_int__i_MendStep_c1.L (s0, (f1_0, ()), ()) = slices_IndexFunc_int__i_MendStep_c1 s0 f1_0 := by kernel_rfl
-- NICE tot
noncomputable def slices_IndexFunc_int__i_MendStep_c1_n (l : List Int) (d : Int) : Int × Int := (idxF (fun x => x == d) l 0, d)
theorem slices_IndexFunc_int__i_MendStep_c1_ok (l : List Int) (d : Int) (hb : BdI c_slices_IndexFunc_int__i_MendStep_c1.ins (l, (d, ()), ())) : slices_IndexFunc_int__i_MendStep_c1 l d = some (slices_IndexFunc_int__i_MendStep_c1_n l d) :=
  have hm : l.length ≤ maxLen := hb.1.1
  loop_idxG (fun i => (i, d)) (L := fun i => slices_IndexFunc_int__i_MendStep_c1_L1 l d l.length (i : Int)) (l := l) (p := fun x => x == d)
    (fun i h => by simp only [slices_IndexFunc_int__i_MendStep_c1_u1 l d l.length i, slices_IndexFunc_int__i_MendStep_c1_t1, rdk_get (k := kint) h, wrapS h hm]; simp [h]) (by simp [slices_IndexFunc_int__i_MendStep_c1_u1 l d l.length l.length, slices_IndexFunc_int__i_MendStep_c1_t1])
noncomputable def F_slices_IndexFunc_int__i_MendStep_c1 : Ins c_slices_IndexFunc_int__i_MendStep_c1.ins → (Int × Int) := fun x => slices_IndexFunc_int__i_MendStep_c1_n x.1 x.2.1.1
noncomputable def S_slices_IndexFunc_int__i_MendStep_c1 : FSpec := mkT c_slices_IndexFunc_int__i_MendStep_c1.env.pre c_slices_IndexFunc_int__i_MendStep_c1.ins c_slices_IndexFunc_int__i_MendStep_c1.out c_slices_IndexFunc_int__i_MendStep_c1.inj F_slices_IndexFunc_int__i_MendStep_c1
theorem h_slices_IndexFunc_int__i_MendStep_c1 : Cert Try.prog 177 S_slices_IndexFunc_int__i_MendStep_c1 := FnCx.certT (c := c_slices_IndexFunc_int__i_MendStep_c1) F_slices_IndexFunc_int__i_MendStep_c1 (tyOk _ _ _) (spOk ⟨h_i_MendStep_c1, fun _ _ _ => trivial, trivial⟩) (fun _ _ _ _ _ hs => noDr_ok) Try.func177 rfl rfl Try.ntmps177 (by kernel_rfl) rfl rfl (fun _ => rfl) slices_IndexFunc_int__i_MendStep_c1_ts slices_IndexFunc_int__i_MendStep_c1_hs (fun x hb => by
  obtain ⟨s0, ⟨f1_0, _⟩, _⟩ := x
  exact (slices_IndexFunc_int__i_MendStep_c1_e s0 f1_0).trans (slices_IndexFunc_int__i_MendStep_c1_ok s0 f1_0 hb))
/-! slices.DeleteFunc[[]int,int] -/
noncomputable def c_slices_DeleteFunc_int__i_MendStep_c1 : FnCx := { env := env 42 [(177, S_slices_IndexFunc_int__i_MendStep_c1), (125, S_i_MendStep_c1)] [38, 41], body := bodyOf Try.f124, res := [.tmp 4], ins := [.mv kSint, .fn 125 [(3, kint)]], out := [(kSint, true)], T := List Int × Int, fin := fun r => (r.1.1, r.2.2.1.1), inj := fun t => ((t.1, ()), ((), (t.2, ()), ())), pts := [([.inLoop [1, 1, 1, 0, 1, 0, 0], .inBlock 0, .code [1, 1, 1, 1]], Shape.mk [Bs.row kint 3 true, Bs.box 3 [Cs.sc kint]] [(0, Ss.one (Cs.sl 0)), (1, Ss.fn 125 [Cs.ptr 1 0]), (5, Ss.one (Cs.sc kint)), (6, Ss.one (Cs.sc kint))] [Ss.one (Cs.any), Ss.fn 125 [Cs.ptr 1 0]])], fuel := 400, dr := noDr }
noncomputable def slices_DeleteFunc_int__i_MendStep_c1_t1 (g1 : List (Int) → Int → Int → Int → Option (List Int × Int)) (r0 : List (Int)) (b1_0 : Int) (i5 : Int) (j6 : Int) : Option (List Int × Int) :=
  bif decide (j6 < (↑(List.length r0) : Int)) then
    bif decide (0 ≤ j6) then
      bif decide (j6 < (↑(List.length r0) : Int)) then
        bif !rdk kint r0 j6 == b1_0 then
          bif decide (0 ≤ i5) then
            bif decide (i5 < (↑(List.length r0) : Int)) then
              g1 (List.set r0 (Int.toNat i5) (rdk kint r0 j6)) b1_0 (IntKind.wrap IntKind.i64 (i5 + 1)) (IntKind.wrap IntKind.i64 (j6 + 1))
            else none
          else none
        else g1 r0 b1_0 i5 (IntKind.wrap IntKind.i64 (j6 + 1))
      else none
    else none
  else
    bif decide (0 ≤ i5) then
      bif decide (i5 ≤ (↑(List.length r0) : Int)) then
        bif decide (0 ≤ i5) then
          bif
              decide
                (i5 ≤ (↑(List.length (List.take (Int.toNat i5) r0 ++ List.replicate (List.length r0 - Int.toNat i5) (Kd.zero kint))) : Int)) then
            some (List.take (Int.toNat i5) (List.take (Int.toNat i5) r0 ++ List.replicate (List.length r0 - Int.toNat i5) (Kd.zero kint)), b1_0)
          else none
        else none
      else none
    else none
noncomputable def slices_DeleteFunc_int__i_MendStep_c1_t0 (g1 : List (Int) → Int → Int → Int → Option (List Int × Int)) (s0 : List Int) (del1_0 : Int) : Option (List Int × Int) :=
  bif idxF (fun x => x == del1_0) s0 0 == -1 then some (s0, del1_0)
  else g1 s0 del1_0 (idxF (fun x => x == del1_0) s0 0) (IntKind.wrap IntKind.i64 (idxF (fun x => x == del1_0) s0 0 + 1))
theorem slices_DeleteFunc_int__i_MendStep_c1_ts : Tails c_slices_DeleteFunc_int__i_MendStep_c1.pts c_slices_DeleteFunc_int__i_MendStep_c1.round :=
  ⟨fun s => by
    obtain ⟨⟨r0, ⟨b1_0, _⟩, _⟩, ⟨_, ⟨_, _⟩, i5, j6, _⟩, ⟨_, ⟨_, _⟩, _⟩⟩ := s
    refine Tail.eq (Y := fun g => slices_DeleteFunc_int__i_MendStep_c1_t1 (fun r0 b1_0 i5 j6 => g.1 ((r0, (b1_0, ()), ()), ((), ((), ()), i5, j6, ()), ((), ((), ()), ()))) r0 b1_0 i5 j6) ?_ (fun g => by kernel_rfl)
    simp only [slices_DeleteFunc_int__i_MendStep_c1_t1]; repeat (first | exact Tail.const _ | exact Tail.here _ | exact Tail.there (Tail.here _) | exact Tail.there (Tail.there (Tail.here _)) | exact Tail.there (Tail.there (Tail.there (Tail.here _))) | exact Tail.there (Tail.there (Tail.there (Tail.there (Tail.here _)))) | exact Tail.there (Tail.there (Tail.there (Tail.there (Tail.there (Tail.here _))))) | apply Tail.cond | (apply Tail.bind; intro _)), trivial⟩
theorem slices_DeleteFunc_int__i_MendStep_c1_hs : ∀ x, Tail c_slices_DeleteFunc_int__i_MendStep_c1.pts (fun g => c_slices_DeleteFunc_int__i_MendStep_c1.start g x) := fun x => by
    obtain ⟨s0, ⟨del1_0, _⟩, _⟩ := x
    refine Tail.eq (Y := fun g => slices_DeleteFunc_int__i_MendStep_c1_t0 (fun r0 b1_0 i5 j6 => g.1 ((r0, (b1_0, ()), ()), ((), ((), ()), i5, j6, ()), ((), ((), ()), ()))) s0 del1_0) ?_ (fun g => by kernel_rfl)
    simp only [slices_DeleteFunc_int__i_MendStep_c1_t0]; repeat (first | exact Tail.const _ | exact Tail.here _ | exact Tail.there (Tail.here _) | exact Tail.there (Tail.there (Tail.here _)) | exact Tail.there (Tail.there (Tail.there (Tail.here _))) | exact Tail.there (Tail.there (Tail.there (Tail.there (Tail.here _)))) | exact Tail.there (Tail.there (Tail.there (Tail.there (Tail.there (Tail.here _))))) | apply Tail.cond | (apply Tail.bind; intro _))
noncomputable def slices_DeleteFunc_int__i_MendStep_c1_L1 (r0 : List (Int)) (b1_0 : Int) (i5 : Int) (j6 : Int) : Option (List Int × Int) := c_slices_DeleteFunc_int__i_MendStep_c1.L.1 ((r0, (b1_0, ()), ()), ((), ((), ()), i5, j6, ()), ((), ((), ()), ()))
theorem slices_DeleteFunc_int__i_MendStep_c1_u1 (r0 : List (Int)) (b1_0 : Int) (i5 : Int) (j6 : Int) : slices_DeleteFunc_int__i_MendStep_c1_L1 r0 b1_0 i5 j6 = slices_DeleteFunc_int__i_MendStep_c1_t1 slices_DeleteFunc_int__i_MendStep_c1_L1 r0 b1_0 i5 j6 :=
  (congrArg (fun g => g.1 ((r0, (b1_0, ()), ()), ((), ((), ()), i5, j6, ()), ((), ((), ()), ()))) (FnCx.L_eq slices_DeleteFunc_int__i_MendStep_c1_ts)).trans (by kernel_rfl)
noncomputable def slices_DeleteFunc_int__i_MendStep_c1 (s0 : List Int) (del1_0 : Int) : Option (List Int × Int) := slices_DeleteFunc_int__i_MendStep_c1_t0 slices_DeleteFunc_int__i_MendStep_c1_L1 s0 del1_0
theorem slices_DeleteFunc_int__i_MendStep_c1_e (s0 : List Int) (del1_0 : Int) : c_slices_DeleteFunc_int__i_MendStep_c1.start c_slices_DeleteFunc_int__i_MendStep_c1.L (s0, (del1_0, ()), ()) = slices_DeleteFunc_int__i_MendStep_c1 s0 del1_0 := by kernel_rfl
-- NICE tot
noncomputable def slices_DeleteFunc_int__i_MendStep_c1_n (l : List Int) (d : Int) : List Int × Int := (l.filter (fun x => !(x == d)), d)
theorem slices_DeleteFunc_int__i_MendStep_c1_ok (l : List Int) (d : Int) (hb : BdI c_slices_DeleteFunc_int__i_MendStep_c1.ins (l, (d, ()), ())) : slices_DeleteFunc_int__i_MendStep_c1 l d = some (slices_DeleteFunc_int__i_MendStep_c1_n l d) := by
  have hm : l.length ≤ maxLen := hb.1.1
  unfold slices_DeleteFunc_int__i_MendStep_c1 slices_DeleteFunc_int__i_MendStep_c1_t0 slices_DeleteFunc_int__i_MendStep_c1_n
  rcases idxF_cases (fun x => x == d) l 0 with ⟨h1, h2⟩ | ⟨k, h1, h2, h3⟩
  · simp only [h1, h2]
    rfl
  · have hk : ¬ ((0 + k : Nat) : Int) = -1 := by omega
    have e := loop_delete (L := fun r i j => slices_DeleteFunc_int__i_MendStep_c1_L1 r d (i : Int) (j : Int)) (n := l.length) (p := fun x => x == d) (e := fun r => some (r, d))
      (fun r i j h hij hr => by
        have hi : i < r.length := by omega
        have hrm : r.length ≤ maxLen := by rw [hr]; exact hm
        simp only [slices_DeleteFunc_int__i_MendStep_c1_u1 r d i j, slices_DeleteFunc_int__i_MendStep_c1_t1, rdk_get (k := kint) h, wrapS h hrm, wrapS hi hrm, Int.toNat_natCast]
        cases r[j] == d <;> simp [h, hi])
      (fun r i hi hr => by
        have h1 : ¬ (((l.length : Nat) : Int) < (r.length : Int)) := by omega
        have h2 : (i : Int) ≤ (r.length : Int) := by omega
        have h3 : (r.take i ++ List.replicate (r.length - i) (Kd.zero kint)).length = r.length := by simp; omega
        have h4 : (r.take i ++ List.replicate (r.length - i) (Kd.zero kint)).take i = r.take i := List.take_left' (by simp; omega)
        simp only [slices_DeleteFunc_int__i_MendStep_c1_u1 r d i l.length, slices_DeleteFunc_int__i_MendStep_c1_t1, Int.toNat_natCast, h3, h4, decide_eq_false h1, decide_eq_true h2, decide_eq_true (Int.natCast_nonneg i), cond_true, cond_false])
      _ (k + 1) l k rfl rfl (by omega) (by omega)
    simp only [Option.bind_some, h2]
    rw [← h3, beq_eq_false_iff_ne.2 hk, cond_false, Nat.zero_add, wrapS h1 hm]
    exact e
noncomputable def F_slices_DeleteFunc_int__i_MendStep_c1 : Ins c_slices_DeleteFunc_int__i_MendStep_c1.ins → (List Int × Int) := fun x => slices_DeleteFunc_int__i_MendStep_c1_n x.1 x.2.1.1
noncomputable def S_slices_DeleteFunc_int__i_MendStep_c1 : FSpec := mkT c_slices_DeleteFunc_int__i_MendStep_c1.env.pre c_slices_DeleteFunc_int__i_MendStep_c1.ins c_slices_DeleteFunc_int__i_MendStep_c1.out c_slices_DeleteFunc_int__i_MendStep_c1.inj F_slices_DeleteFunc_int__i_MendStep_c1
theorem h_slices_DeleteFunc_int__i_MendStep_c1 : Cert Try.prog 124 S_slices_DeleteFunc_int__i_MendStep_c1 := FnCx.certT (c := c_slices_DeleteFunc_int__i_MendStep_c1) F_slices_DeleteFunc_int__i_MendStep_c1 (tyOk _ _ _) (spOk ⟨h_slices_IndexFunc_int__i_MendStep_c1, fun _ _ _ => trivial, ⟨h_i_MendStep_c1, fun _ _ _ => trivial, trivial⟩⟩) (fun _ _ _ _ _ hs => noDr_ok) Try.func124 rfl rfl Try.ntmps124 (by kernel_rfl) rfl rfl (fun _ => rfl) slices_DeleteFunc_int__i_MendStep_c1_ts slices_DeleteFunc_int__i_MendStep_c1_hs (fun x hb => by
  obtain ⟨s0, ⟨del1_0, _⟩, _⟩ := x
  exact (slices_DeleteFunc_int__i_MendStep_c1_e s0 del1_0).trans (slices_DeleteFunc_int__i_MendStep_c1_ok s0 del1_0 hb))
/-! impl.MendStep -/
noncomputable def c_i_MendStep : FnCx := { env := env 25 [(116, S_i_AreStairs), (123, S_i_Stairs_isBroken), (117, S_i_Stairs_copied), (124, S_slices_DeleteFunc_int__i_MendStep_c1)] [], body := bodyOf Try.f40, res := [.cell 4 30, .tmp 5], ins := [.ro kStairs, .ro kint], out := [(kStairs, true), (kbool, true)], T := (Int × List Int × List Int) × Bool, fin := fun r => (r.1.1, r.1.2.1), inj := fun t => ((t.1, t.2, ()), ((), (), ())), pts := [], fuel := 400, dr := noDr }
noncomputable def i_MendStep (s0_Steps : Int) (s0_Strides : List Int) (s0_Broken : List Int) (step1 : Int) : Option ((Int × List Int × List Int) × Bool) :=
  bif !i_AreStairs s0_Steps s0_Strides s0_Broken then some ((0, [], []), false)
  else
    bif !i_Stairs_isBroken s0_Steps s0_Strides s0_Broken step1 then some ((0, [], []), false)
    else
      Option.bind (i_Stairs_copied s0_Steps s0_Strides s0_Broken) fun r =>
        some ((Prod.fst r, Prod.fst (Prod.snd r), List.filter (fun x => !x == step1) (Prod.snd (Prod.snd r))), true)
theorem i_MendStep_e (s0_Steps : Int) (s0_Strides : List Int) (s0_Broken : List Int) (step1 : Int) : c_i_MendStep.start c_i_MendStep.L ((s0_Steps, s0_Strides, s0_Broken), step1, ()) = i_MendStep s0_Steps s0_Strides s0_Broken step1 := by kernel_rfl
-- NICE tot
noncomputable def i_MendStep_n (a : Int) (b c : List Int) (k : Int) : (Int × List Int × List Int) × Bool := s_MendStep_n a b c k
theorem i_MendStep_ok (a : Int) (b c : List Int) (k : Int) (hb : BdI c_i_MendStep.ins ((a, b, c), k, ())) : i_MendStep a b c k = some (i_MendStep_n a b c k) := by
  unfold i_MendStep i_MendStep_n s_MendStep_n i_Stairs_isBroken
  rw [i_AreStairs_eq, slices_Contains_int_eq]
  cases hg : s_clGood a b c
  · rfl
  · have hl := s_clGood_len hg
    have hcp : i_Stairs_copied a b c = some (a, b, c) := by
      unfold i_Stairs_copied slices_Clone_int_n
      rw [decide_eq_true (by omega : b.length ≤ 4294967296), decide_eq_true (by omega : c.length ≤ 4294967296)]
      rfl
    cases hk : decide (k ∈ c)
    · rfl
    · simp [hcp, slices_DeleteFunc_int__i_MendStep_c1_n]
noncomputable def F_i_MendStep : Ins c_i_MendStep.ins → ((Int × List Int × List Int) × Bool) := fun x => i_MendStep_n x.1.1 x.1.2.1 x.1.2.2 x.2.1
noncomputable def S_i_MendStep : FSpec := mkT c_i_MendStep.env.pre c_i_MendStep.ins c_i_MendStep.out c_i_MendStep.inj F_i_MendStep
theorem h_i_MendStep : Cert Try.prog 40 S_i_MendStep := FnCx.certT (c := c_i_MendStep) F_i_MendStep (tyOk _ _ _) (spOk ⟨h_i_AreStairs, fun _ _ _ => trivial, ⟨h_i_Stairs_isBroken, fun _ _ _ => trivial, ⟨h_i_Stairs_copied, fun _ _ _ => trivial, ⟨h_slices_DeleteFunc_int__i_MendStep_c1, fun _ _ _ => trivial, trivial⟩⟩⟩⟩) (fun _ _ _ _ _ hs => noDr_ok) Try.func40 rfl rfl Try.ntmps40 (by kernel_rfl) rfl rfl (fun _ => rfl) trivial (fun x => .inl ⟨c_i_MendStep.start () x, fun _ => rfl⟩) (fun x hb => by
  obtain ⟨⟨s0_Steps, s0_Strides, s0_Broken⟩, step1, _⟩ := x
  exact (i_MendStep_e s0_Steps s0_Strides s0_Broken step1).trans (i_MendStep_ok s0_Steps s0_Strides s0_Broken step1 hb))
/-! laws.FnExactMendStep -/
noncomputable def c_w_FnExactMendStep : FnCx := { env := env 101 [(28, S_w_szStairs), (30, S_w_toStairs), (39, S_s_MendStep), (40, S_i_MendStep), (32, S_w_eqStairs), (33, S_w_markStairs), (34, S_w_heldStairs)] [], body := bodyOf Try.f8, res := [.tmp 4], ins := [.ro kwStairs, .ro kint], out := [(kbool, true)], T := Bool, fin := fun r => r.1.1, inj := fun t => ((t, ()), ((), (), ())), pts := [], fuel := 400, dr := evDr (env 101 [(28, S_w_szStairs), (30, S_w_toStairs), (39, S_s_MendStep), (40, S_i_MendStep), (32, S_w_eqStairs), (33, S_w_markStairs), (34, S_w_heldStairs)] []) }
noncomputable def w_FnExactMendStep (x0_Steps : Int) (x0_Strides : List Int) (x0_Broken : List Int) (x1 : Int) : Option Bool :=
  bif decide (w_szStairs x0_Steps x0_Strides x0_Broken 1048576 < 0) then some true
  else
    Option.bind (w_toStairs x0_Steps x0_Strides x0_Broken) fun r =>
      Option.bind (w_toStairs x0_Steps x0_Strides x0_Broken) fun r_1 =>
        bif
            !w_eqStairs (Prod.fst (Prod.fst (i_MendStep_n (Prod.fst r_1) (Prod.fst (Prod.snd r_1)) (Prod.snd (Prod.snd r_1)) x1)))
                (Prod.fst (Prod.snd (Prod.fst (i_MendStep_n (Prod.fst r_1) (Prod.fst (Prod.snd r_1)) (Prod.snd (Prod.snd r_1)) x1))))
                (Prod.snd (Prod.snd (Prod.fst (i_MendStep_n (Prod.fst r_1) (Prod.fst (Prod.snd r_1)) (Prod.snd (Prod.snd r_1)) x1))))
                (Prod.fst (Prod.fst (s_MendStep_n (Prod.fst r) (Prod.fst (Prod.snd r)) (Prod.snd (Prod.snd r)) x1)))
                (Prod.fst (Prod.snd (Prod.fst (s_MendStep_n (Prod.fst r) (Prod.fst (Prod.snd r)) (Prod.snd (Prod.snd r)) x1))))
                (Prod.snd (Prod.snd (Prod.fst (s_MendStep_n (Prod.fst r) (Prod.fst (Prod.snd r)) (Prod.snd (Prod.snd r)) x1)))) then
          some false
        else
          bif
              !Prod.snd (i_MendStep_n (Prod.fst r_1) (Prod.fst (Prod.snd r_1)) (Prod.snd (Prod.snd r_1)) x1) ==
                  Prod.snd (s_MendStep_n (Prod.fst r) (Prod.fst (Prod.snd r)) (Prod.snd (Prod.snd r)) x1) then
            some false
          else
            Option.bind (w_toStairs x0_Steps x0_Strides x0_Broken) fun r_2 =>
              bif
                  !w_eqStairs (Prod.fst r_1) (Prod.fst (Prod.snd r_1)) (Prod.snd (Prod.snd r_1)) (Prod.fst r_2) (Prod.fst (Prod.snd r_2))
                      (Prod.snd (Prod.snd r_2)) then
                some false
              else
                bif decide (markK (Prod.snd (Prod.snd r_1)) (markK (Prod.fst (Prod.snd r_1)) 1) < 0) then some false
                else
                  bif
                      !w_eqStairs (Prod.fst (Prod.fst (i_MendStep_n (Prod.fst r_1) (Prod.fst (Prod.snd r_1)) (Prod.snd (Prod.snd r_1)) x1)))
                          (Prod.fst (Prod.snd (Prod.fst (i_MendStep_n (Prod.fst r_1) (Prod.fst (Prod.snd r_1)) (Prod.snd (Prod.snd r_1)) x1))))
                          (Prod.snd (Prod.snd (Prod.fst (i_MendStep_n (Prod.fst r_1) (Prod.fst (Prod.snd r_1)) (Prod.snd (Prod.snd r_1)) x1))))
                          (Prod.fst (Prod.fst (s_MendStep_n (Prod.fst r) (Prod.fst (Prod.snd r)) (Prod.snd (Prod.snd r)) x1)))
                          (Prod.fst (Prod.snd (Prod.fst (s_MendStep_n (Prod.fst r) (Prod.fst (Prod.snd r)) (Prod.snd (Prod.snd r)) x1))))
                          (Prod.snd (Prod.snd (Prod.fst (s_MendStep_n (Prod.fst r) (Prod.fst (Prod.snd r)) (Prod.snd (Prod.snd r)) x1)))) then
                    some false
                  else
                    bif
                        !Prod.snd (i_MendStep_n (Prod.fst r_1) (Prod.fst (Prod.snd r_1)) (Prod.snd (Prod.snd r_1)) x1) ==
                            Prod.snd (s_MendStep_n (Prod.fst r) (Prod.fst (Prod.snd r)) (Prod.snd (Prod.snd r)) x1) then
                      some false
                    else
                      bif
                          decide
                            (w_heldStairs (Prod.fst (Prod.fst (i_MendStep_n (Prod.fst r_1) (Prod.fst (Prod.snd r_1)) (Prod.snd (Prod.snd r_1)) x1)))
                                (markL (Prod.fst (Prod.snd (Prod.fst (i_MendStep_n (Prod.fst r_1) (Prod.fst (Prod.snd r_1)) (Prod.snd (Prod.snd r_1)) x1)))) 1)
                                (markL (Prod.snd (Prod.snd (Prod.fst (i_MendStep_n (Prod.fst r_1) (Prod.fst (Prod.snd r_1)) (Prod.snd (Prod.snd r_1)) x1))))
                                  (markK (Prod.fst (Prod.snd (Prod.fst (i_MendStep_n (Prod.fst r_1) (Prod.fst (Prod.snd r_1)) (Prod.snd (Prod.snd r_1)) x1)))) 1))
                                1 <
                              0) then
                        some false
                      else
                        bif
                            w_heldStairs (Prod.fst (Prod.fst (i_MendStep_n (Prod.fst r_1) (Prod.fst (Prod.snd r_1)) (Prod.snd (Prod.snd r_1)) x1)))
                                (markL (Prod.fst (Prod.snd (Prod.fst (i_MendStep_n (Prod.fst r_1) (Prod.fst (Prod.snd r_1)) (Prod.snd (Prod.snd r_1)) x1)))) 1)
                                (markL (Prod.snd (Prod.snd (Prod.fst (i_MendStep_n (Prod.fst r_1) (Prod.fst (Prod.snd r_1)) (Prod.snd (Prod.snd r_1)) x1))))
                                  (markK (Prod.fst (Prod.snd (Prod.fst (i_MendStep_n (Prod.fst r_1) (Prod.fst (Prod.snd r_1)) (Prod.snd (Prod.snd r_1)) x1)))) 1))
                                1 !=
                              markK (Prod.snd (Prod.snd (Prod.fst (i_MendStep_n (Prod.fst r_1) (Prod.fst (Prod.snd r_1)) (Prod.snd (Prod.snd r_1)) x1))))
                                (markK (Prod.fst (Prod.snd (Prod.fst (i_MendStep_n (Prod.fst r_1) (Prod.fst (Prod.snd r_1)) (Prod.snd (Prod.snd r_1)) x1))))
                                  1) then
                          some false
                        else
                          Option.bind (w_toStairs x0_Steps x0_Strides x0_Broken) fun r_3 =>
                            bif
                                !w_eqStairs (Prod.fst (Prod.fst (i_MendStep_n (Prod.fst r_3) (Prod.fst (Prod.snd r_3)) (Prod.snd (Prod.snd r_3)) x1)))
                                    (Prod.fst (Prod.snd (Prod.fst (i_MendStep_n (Prod.fst r_3) (Prod.fst (Prod.snd r_3)) (Prod.snd (Prod.snd r_3)) x1))))
                                    (Prod.snd (Prod.snd (Prod.fst (i_MendStep_n (Prod.fst r_3) (Prod.fst (Prod.snd r_3)) (Prod.snd (Prod.snd r_3)) x1))))
                                    (Prod.fst (Prod.fst (s_MendStep_n (Prod.fst r) (Prod.fst (Prod.snd r)) (Prod.snd (Prod.snd r)) x1)))
                                    (Prod.fst (Prod.snd (Prod.fst (s_MendStep_n (Prod.fst r) (Prod.fst (Prod.snd r)) (Prod.snd (Prod.snd r)) x1))))
                                    (Prod.snd (Prod.snd (Prod.fst (s_MendStep_n (Prod.fst r) (Prod.fst (Prod.snd r)) (Prod.snd (Prod.snd r)) x1)))) then
                              some false
                            else
                              bif
                                  !Prod.snd (i_MendStep_n (Prod.fst r_3) (Prod.fst (Prod.snd r_3)) (Prod.snd (Prod.snd r_3)) x1) ==
                                      Prod.snd (s_MendStep_n (Prod.fst r) (Prod.fst (Prod.snd r)) (Prod.snd (Prod.snd r)) x1) then
                                some false
                              else
                                bif
                                    decide
                                      (w_heldStairs (Prod.fst (Prod.fst (i_MendStep_n (Prod.fst r_1) (Prod.fst (Prod.snd r_1)) (Prod.snd (Prod.snd r_1)) x1)))
                                          (markL
                                            (Prod.fst (Prod.snd (Prod.fst (i_MendStep_n (Prod.fst r_1) (Prod.fst (Prod.snd r_1)) (Prod.snd (Prod.snd r_1)) x1))))
                                            1)
                                          (markL
                                            (Prod.snd (Prod.snd (Prod.fst (i_MendStep_n (Prod.fst r_1) (Prod.fst (Prod.snd r_1)) (Prod.snd (Prod.snd r_1)) x1))))
                                            (markK
                                              (Prod.fst
                                                (Prod.snd (Prod.fst (i_MendStep_n (Prod.fst r_1) (Prod.fst (Prod.snd r_1)) (Prod.snd (Prod.snd r_1)) x1))))
                                              1))
                                          1 <
                                        0) then
                                  some false
                                else
                                  bif
                                      w_heldStairs (Prod.fst (Prod.fst (i_MendStep_n (Prod.fst r_1) (Prod.fst (Prod.snd r_1)) (Prod.snd (Prod.snd r_1)) x1)))
                                          (markL
                                            (Prod.fst (Prod.snd (Prod.fst (i_MendStep_n (Prod.fst r_1) (Prod.fst (Prod.snd r_1)) (Prod.snd (Prod.snd r_1)) x1))))
                                            1)
                                          (markL
                                            (Prod.snd (Prod.snd (Prod.fst (i_MendStep_n (Prod.fst r_1) (Prod.fst (Prod.snd r_1)) (Prod.snd (Prod.snd r_1)) x1))))
                                            (markK
                                              (Prod.fst
                                                (Prod.snd (Prod.fst (i_MendStep_n (Prod.fst r_1) (Prod.fst (Prod.snd r_1)) (Prod.snd (Prod.snd r_1)) x1))))
                                              1))
                                          1 !=
                                        markK
                                          (Prod.snd (Prod.snd (Prod.fst (i_MendStep_n (Prod.fst r_1) (Prod.fst (Prod.snd r_1)) (Prod.snd (Prod.snd r_1)) x1))))
                                          (markK
                                            (Prod.fst (Prod.snd (Prod.fst (i_MendStep_n (Prod.fst r_1) (Prod.fst (Prod.snd r_1)) (Prod.snd (Prod.snd r_1)) x1))))
                                            1) then
                                    some false
                                  else some true
theorem w_FnExactMendStep_e (x0_Steps : Int) (x0_Strides : List Int) (x0_Broken : List Int) (x1 : Int) : c_w_FnExactMendStep.start c_w_FnExactMendStep.L ((x0_Steps, x0_Strides, x0_Broken), x1, ()) = w_FnExactMendStep x0_Steps x0_Strides x0_Broken x1 := by kernel_rfl
noncomputable def F_w_FnExactMendStep : Ins c_w_FnExactMendStep.ins → Option Bool := fun x => w_FnExactMendStep x.1.1 x.1.2.1 x.1.2.2 x.2.1
noncomputable def S_w_FnExactMendStep : FSpec := mkF c_w_FnExactMendStep.env.pre c_w_FnExactMendStep.ins c_w_FnExactMendStep.out c_w_FnExactMendStep.inj F_w_FnExactMendStep
theorem h_w_FnExactMendStep : Cert Try.prog 8 S_w_FnExactMendStep := FnCx.certF (c := c_w_FnExactMendStep) F_w_FnExactMendStep (tyOk _ _ _) (spOk ⟨h_w_szStairs, fun _ _ _ => trivial, ⟨h_w_toStairs, fun _ _ _ => trivial, ⟨h_s_MendStep, fun _ _ _ => trivial, ⟨h_i_MendStep, fun _ _ _ => trivial, ⟨h_w_eqStairs, fun _ _ _ => trivial, ⟨h_w_markStairs, fun _ _ _ => trivial, ⟨h_w_heldStairs, fun _ _ _ => trivial, trivial⟩⟩⟩⟩⟩⟩⟩) (fun _ _ _ _ _ hs => evDr_ok (tyOk _ _ _) hs follows) Try.func8 rfl rfl Try.ntmps8 (by kernel_rfl) rfl rfl (fun _ => rfl) trivial (fun x => .inl ⟨c_w_FnExactMendStep.start () x, fun _ => rfl⟩) (fun x t hb ht => by
  obtain ⟨⟨x0_Steps, x0_Strides, x0_Broken⟩, x1, _⟩ := x
  exact (w_FnExactMendStep_e x0_Steps x0_Strides x0_Broken x1).trans ht)
end Go.Proofs.Ytinmfblemgkboaa.V
