/- Functions of the program, as plain functions. No condition. -/
import Derived.Test.YtoldoplpnkojdaaGreatDoorK2
set_option linter.unusedVariables false
set_option linter.unusedSimpArgs false
set_option maxRecDepth 100000
namespace Go.Proofs.YtoldoplpnkojdaaGreatDoor.V
open Go Go.Ev Go.Proofs
/-! slices.Clone[[]int,int] -/
noncomputable def c_slices_Clone_int : FnCx := { env := env 8 [] [], body := bodyOf Tryz.f94, res := [.tmp 2], ins := [.ro kSint], out := [(kSint, true)], T := List Int, fin := fun r => r.1.1, inj := fun t => ((t, ()), ((), ())), pts := [], fuel := 400, dr := noDr }
noncomputable def slices_Clone_int (s0 : List Int) : Option (List Int) :=
  bif decide (0 < (↑(List.length s0) : Int)) then bif Nat.ble (0 + List.length s0) 4294967296 then some ([] ++ s0) else none
  else both (some []) (bif Nat.ble (0 + List.length s0) 4294967296 then some ([] ++ s0) else none)
theorem slices_Clone_int_e (s0 : List Int) : c_slices_Clone_int.start c_slices_Clone_int.L (s0, ()) = slices_Clone_int s0 := by kernel_rfl
-- NICE opt
noncomputable def slices_Clone_int_n (s : List Int) : Option (List Int) := bif decide (s.length ≤ 4294967296) then some s else none
theorem slices_Clone_int_ok (s : List Int) (hb : BdI c_slices_Clone_int.ins (s, ())) (t : List Int) (ht : slices_Clone_int_n s = some t) : slices_Clone_int s = some t := by
  unfold slices_Clone_int_n at ht
  cases h : decide (s.length ≤ 4294967296)
  · rw [h] at ht; cases ht
  · rw [h] at ht; cases ht
    have h := of_decide_eq_true h
    unfold slices_Clone_int
    cases s with
    | nil => simp [ble_dec, both_same]
    | cons x l =>
      have h' : l.length + 1 ≤ 4294967296 := h
      have h2 : (0 : Int) < l.length + 1 := by omega
      simp [ble_dec, h', h2]
noncomputable def F_slices_Clone_int : Ins c_slices_Clone_int.ins → Option (List Int) := fun x => slices_Clone_int_n x.1
noncomputable def S_slices_Clone_int : FSpec := mkF c_slices_Clone_int.env.pre c_slices_Clone_int.ins c_slices_Clone_int.out c_slices_Clone_int.inj F_slices_Clone_int
theorem h_slices_Clone_int : Cert Tryz.prog 94 S_slices_Clone_int := FnCx.certF (c := c_slices_Clone_int) F_slices_Clone_int (tyOk _ _ _) (spOk trivial) (fun _ _ _ _ _ hs => noDr_ok) Tryz.func94 rfl rfl Tryz.ntmps94 (by kernel_rfl) rfl rfl (fun _ => rfl) trivial (fun x => .inl ⟨c_slices_Clone_int.start () x, fun _ => rfl⟩) (fun x t hb ht => by
  obtain ⟨s0, _⟩ := x
  exact (slices_Clone_int_e s0).trans (slices_Clone_int_ok s0 hb t ht))
/-! impl.hidden -/
noncomputable def c_i_hidden : FnCx := { env := env 47 [(94, S_slices_Clone_int)] [], body := bodyOf Tryz.f65, res := [.tmp 0], ins := [], out := [(kSStairs, true)], T := List ((Int × List Int × List Int)), fin := fun r => r.1.1, inj := fun t => ((t, ()), ()), pts := [([.inLoop [1, 1, 0, 1, 0, 0], .inBlock 0, .code [1, 1, 1]], Shape.mk [Bs.row kStairs 32 true] [(1, Ss.one (Cs.sl 0)), (2, Ss.one (Cs.sc kint))] []), ([.inLoop [1, 1, 0, 1, 0, 0, 1, 0, 0, 1, 0, 0], .inBlock 2, .inBlock 1, .code [1, 1, 0, 1, 0, 0, 1, 1], .inLoop [1, 1, 0, 1, 0, 0], .inBlock 0, .code [1, 1, 1]], Shape.mk [Bs.row kStairs 32 true, Bs.row kSint 30 false] [(1, Ss.one (Cs.sl 0)), (2, Ss.one (Cs.sc kint)), (18, Ss.one (Cs.sl 1)), (19, Ss.one (Cs.sc kint)), (20, Ss.one (Cs.sc kint))] []), ([.inLoop [1, 1, 0, 1, 0, 0, 1, 0, 0, 1, 0, 0, 1, 1, 0, 0, 1, 1, 1, 0, 0], .inBlock 4, .inBlock 3, .code [1, 1, 0, 1, 0, 0, 1, 0, 0, 1, 0, 0, 1, 1, 1], .inLoop [1, 1, 0, 1, 0, 0, 1, 0, 0, 1, 0, 0], .inBlock 2, .inBlock 1, .code [1, 1, 0, 1, 0, 0, 1, 1], .inLoop [1, 1, 0, 1, 0, 0], .inBlock 0, .code [1, 1, 1]], Shape.mk [Bs.row kStairs 32 true, Bs.row kint 3 false, Bs.row kSint 30 false] [(1, Ss.one (Cs.sl 0)), (2, Ss.one (Cs.sc kint)), (4, Ss.one (Cs.sl 1)), (5, Ss.one (Cs.sc kint)), (18, Ss.one (Cs.sl 2)), (19, Ss.one (Cs.sc kint)), (20, Ss.one (Cs.sc kint))] [])], fuel := 400, dr := noDr }
noncomputable def i_hidden_t1 (g1 : List ((Int × (List (Int) × List (Int)))) → Int → Option (List ((Int × List Int × List Int)))) (g2 : List ((Int × (List (Int) × List (Int)))) → List (List (Int)) → Int → Int → Int → Option (List ((Int × List Int × List Int)))) (g3 : List ((Int × (List (Int) × List (Int)))) → List (Int) → List (List (Int)) → Int → Int → Int → Int → Option (List ((Int × List Int × List Int)))) (r0 : List ((Int × (List (Int) × List (Int))))) (steps2 : Int) : Option (List ((Int × List Int × List Int))) :=
  bif decide (steps2 ≤ 7) then g2 r0 [[1], [1, 2], [1, 2, 3], [1, 3], [2], [2, 3], [3]] steps2 (↑7 : Int) 0 else some r0
noncomputable def i_hidden_t2 (g1 : List ((Int × (List (Int) × List (Int)))) → Int → Option (List ((Int × List Int × List Int)))) (g2 : List ((Int × (List (Int) × List (Int)))) → List (List (Int)) → Int → Int → Int → Option (List ((Int × List Int × List Int)))) (g3 : List ((Int × (List (Int) × List (Int)))) → List (Int) → List (List (Int)) → Int → Int → Int → Int → Option (List ((Int × List Int × List Int)))) (r0 : List ((Int × (List (Int) × List (Int))))) (r1 : List (List (Int))) (steps2 : Int) (s19 : Int) (s20 : Int) : Option (List ((Int × List Int × List Int))) :=
  bif decide (s20 < s19) then
    bif decide (0 ≤ s20) then
      bif decide (s20 < (↑(List.length r1) : Int)) then
        Option.bind (slices_Clone_int_n (rdk kSint r1 s20)) fun r =>
          bif Nat.ble (List.length r0 + 1) 4294967296 then g3 (r0 ++ [(steps2, r, [])]) (rdk kSint r1 s20) r1 steps2 1 s19 s20 else none
      else none
    else none
  else g1 r0 (IntKind.wrap IntKind.i64 (steps2 + 1))
noncomputable def i_hidden_t3 (g1 : List ((Int × (List (Int) × List (Int)))) → Int → Option (List ((Int × List Int × List Int)))) (g2 : List ((Int × (List (Int) × List (Int)))) → List (List (Int)) → Int → Int → Int → Option (List ((Int × List Int × List Int)))) (g3 : List ((Int × (List (Int) × List (Int)))) → List (Int) → List (List (Int)) → Int → Int → Int → Int → Option (List ((Int × List Int × List Int)))) (r0 : List ((Int × (List (Int) × List (Int))))) (r1 : List (Int)) (r2 : List (List (Int))) (steps2 : Int) (k5 : Int) (s19 : Int) (s20 : Int) : Option (List ((Int × List Int × List Int))) :=
  bif decide (k5 < steps2) then
    Option.bind (slices_Clone_int_n r1) fun r =>
      bif Nat.ble (List.length r0 + 1) 4294967296 then g3 (r0 ++ [(steps2, r, [k5])]) r1 r2 steps2 (IntKind.wrap IntKind.i64 (k5 + 1)) s19 s20 else none
  else g2 r0 r2 steps2 s19 (IntKind.wrap IntKind.i64 (s20 + 1))
noncomputable def i_hidden_t0 (g1 : List ((Int × (List (Int) × List (Int)))) → Int → Option (List ((Int × List Int × List Int)))) (g2 : List ((Int × (List (Int) × List (Int)))) → List (List (Int)) → Int → Int → Int → Option (List ((Int × List Int × List Int)))) (g3 : List ((Int × (List (Int) × List (Int)))) → List (Int) → List (List (Int)) → Int → Int → Int → Int → Option (List ((Int × List Int × List Int))))  : Option (List ((Int × List Int × List Int))) :=
  g1 [] 1
theorem i_hidden_ts : Tails c_i_hidden.pts c_i_hidden.round :=
  ⟨fun s => by
    obtain ⟨⟨r0, _⟩, ⟨_, steps2, _⟩, _⟩ := s
    refine Tail.eq (Y := fun g => i_hidden_t1 (fun r0 steps2 => g.1 ((r0, ()), ((), steps2, ()), ())) (fun r0 r1 steps2 s19 s20 => g.2.1 ((r0, r1, ()), ((), steps2, (), s19, s20, ()), ())) (fun r0 r1 r2 steps2 k5 s19 s20 => g.2.2.1 ((r0, r1, r2, ()), ((), steps2, (), k5, (), s19, s20, ()), ())) r0 steps2) ?_ (fun g => by kernel_rfl)
    simp only [i_hidden_t1]; repeat (first | exact Tail.const _ | exact Tail.here _ | exact Tail.there (Tail.here _) | exact Tail.there (Tail.there (Tail.here _)) | exact Tail.there (Tail.there (Tail.there (Tail.here _))) | exact Tail.there (Tail.there (Tail.there (Tail.there (Tail.here _)))) | exact Tail.there (Tail.there (Tail.there (Tail.there (Tail.there (Tail.here _))))) | apply Tail.cond | (apply Tail.bind; intro _)),
  fun s => by
    obtain ⟨⟨r0, r1, _⟩, ⟨_, steps2, _, s19, s20, _⟩, _⟩ := s
    refine Tail.eq (Y := fun g => i_hidden_t2 (fun r0 steps2 => g.1 ((r0, ()), ((), steps2, ()), ())) (fun r0 r1 steps2 s19 s20 => g.2.1 ((r0, r1, ()), ((), steps2, (), s19, s20, ()), ())) (fun r0 r1 r2 steps2 k5 s19 s20 => g.2.2.1 ((r0, r1, r2, ()), ((), steps2, (), k5, (), s19, s20, ()), ())) r0 r1 steps2 s19 s20) ?_ (fun g => by kernel_rfl)
    simp only [i_hidden_t2]; repeat (first | exact Tail.const _ | exact Tail.here _ | exact Tail.there (Tail.here _) | exact Tail.there (Tail.there (Tail.here _)) | exact Tail.there (Tail.there (Tail.there (Tail.here _))) | exact Tail.there (Tail.there (Tail.there (Tail.there (Tail.here _)))) | exact Tail.there (Tail.there (Tail.there (Tail.there (Tail.there (Tail.here _))))) | apply Tail.cond | (apply Tail.bind; intro _)),
  fun s => by
    obtain ⟨⟨r0, r1, r2, _⟩, ⟨_, steps2, _, k5, _, s19, s20, _⟩, _⟩ := s
    refine Tail.eq (Y := fun g => i_hidden_t3 (fun r0 steps2 => g.1 ((r0, ()), ((), steps2, ()), ())) (fun r0 r1 steps2 s19 s20 => g.2.1 ((r0, r1, ()), ((), steps2, (), s19, s20, ()), ())) (fun r0 r1 r2 steps2 k5 s19 s20 => g.2.2.1 ((r0, r1, r2, ()), ((), steps2, (), k5, (), s19, s20, ()), ())) r0 r1 r2 steps2 k5 s19 s20) ?_ (fun g => by kernel_rfl)
    simp only [i_hidden_t3]; repeat (first | exact Tail.const _ | exact Tail.here _ | exact Tail.there (Tail.here _) | exact Tail.there (Tail.there (Tail.here _)) | exact Tail.there (Tail.there (Tail.there (Tail.here _))) | exact Tail.there (Tail.there (Tail.there (Tail.there (Tail.here _)))) | exact Tail.there (Tail.there (Tail.there (Tail.there (Tail.there (Tail.here _))))) | apply Tail.cond | (apply Tail.bind; intro _)), trivial⟩
theorem i_hidden_hs : ∀ x, Tail c_i_hidden.pts (fun g => c_i_hidden.start g x) := fun x => by
    obtain _ := x
    refine Tail.eq (Y := fun g => i_hidden_t0 (fun r0 steps2 => g.1 ((r0, ()), ((), steps2, ()), ())) (fun r0 r1 steps2 s19 s20 => g.2.1 ((r0, r1, ()), ((), steps2, (), s19, s20, ()), ())) (fun r0 r1 r2 steps2 k5 s19 s20 => g.2.2.1 ((r0, r1, r2, ()), ((), steps2, (), k5, (), s19, s20, ()), ())) ) ?_ (fun g => by kernel_rfl)
    simp only [i_hidden_t0]; repeat (first | exact Tail.const _ | exact Tail.here _ | exact Tail.there (Tail.here _) | exact Tail.there (Tail.there (Tail.here _)) | exact Tail.there (Tail.there (Tail.there (Tail.here _))) | exact Tail.there (Tail.there (Tail.there (Tail.there (Tail.here _)))) | exact Tail.there (Tail.there (Tail.there (Tail.there (Tail.there (Tail.here _))))) | apply Tail.cond | (apply Tail.bind; intro _))
noncomputable def i_hidden_L1 (r0 : List ((Int × (List (Int) × List (Int))))) (steps2 : Int) : Option (List ((Int × List Int × List Int))) := c_i_hidden.L.1 ((r0, ()), ((), steps2, ()), ())
noncomputable def i_hidden_L2 (r0 : List ((Int × (List (Int) × List (Int))))) (r1 : List (List (Int))) (steps2 : Int) (s19 : Int) (s20 : Int) : Option (List ((Int × List Int × List Int))) := c_i_hidden.L.2.1 ((r0, r1, ()), ((), steps2, (), s19, s20, ()), ())
noncomputable def i_hidden_L3 (r0 : List ((Int × (List (Int) × List (Int))))) (r1 : List (Int)) (r2 : List (List (Int))) (steps2 : Int) (k5 : Int) (s19 : Int) (s20 : Int) : Option (List ((Int × List Int × List Int))) := c_i_hidden.L.2.2.1 ((r0, r1, r2, ()), ((), steps2, (), k5, (), s19, s20, ()), ())
theorem i_hidden_u1 (r0 : List ((Int × (List (Int) × List (Int))))) (steps2 : Int) : i_hidden_L1 r0 steps2 = i_hidden_t1 i_hidden_L1 i_hidden_L2 i_hidden_L3 r0 steps2 :=
  (congrArg (fun g => g.1 ((r0, ()), ((), steps2, ()), ())) (FnCx.L_eq i_hidden_ts)).trans (by kernel_rfl)
theorem i_hidden_u2 (r0 : List ((Int × (List (Int) × List (Int))))) (r1 : List (List (Int))) (steps2 : Int) (s19 : Int) (s20 : Int) : i_hidden_L2 r0 r1 steps2 s19 s20 = i_hidden_t2 i_hidden_L1 i_hidden_L2 i_hidden_L3 r0 r1 steps2 s19 s20 :=
  (congrArg (fun g => g.2.1 ((r0, r1, ()), ((), steps2, (), s19, s20, ()), ())) (FnCx.L_eq i_hidden_ts)).trans (by kernel_rfl)
theorem i_hidden_u3 (r0 : List ((Int × (List (Int) × List (Int))))) (r1 : List (Int)) (r2 : List (List (Int))) (steps2 : Int) (k5 : Int) (s19 : Int) (s20 : Int) : i_hidden_L3 r0 r1 r2 steps2 k5 s19 s20 = i_hidden_t3 i_hidden_L1 i_hidden_L2 i_hidden_L3 r0 r1 r2 steps2 k5 s19 s20 :=
  (congrArg (fun g => g.2.2.1 ((r0, r1, r2, ()), ((), steps2, (), k5, (), s19, s20, ()), ())) (FnCx.L_eq i_hidden_ts)).trans (by kernel_rfl)
noncomputable def i_hidden  : Option (List ((Int × List Int × List Int))) := i_hidden_t0 i_hidden_L1 i_hidden_L2 i_hidden_L3 
theorem i_hidden_e  : c_i_hidden.start c_i_hidden.L () = i_hidden := by kernel_rfl
noncomputable def F_i_hidden : Ins c_i_hidden.ins → Option (List ((Int × List Int × List Int))) := fun x => i_hidden
noncomputable def S_i_hidden : FSpec := mkF c_i_hidden.env.pre c_i_hidden.ins c_i_hidden.out c_i_hidden.inj F_i_hidden
theorem h_i_hidden : Cert Tryz.prog 65 S_i_hidden := FnCx.certF (c := c_i_hidden) F_i_hidden (tyOk _ _ _) (spOk ⟨h_slices_Clone_int, fun _ _ h => h, trivial⟩) (fun _ _ _ _ _ hs => noDr_ok) Tryz.func65 rfl rfl Tryz.ntmps65 (by kernel_rfl) rfl rfl (fun _ => rfl) i_hidden_ts i_hidden_hs (fun x t hb ht => by
  obtain _ := x
  exact (i_hidden_e ).trans ht)
/-! impl.solutions$1$1 -/
noncomputable def c_i_solutions_c1_c1 : FnCx := { env := env 8 [(56, S_i_fits)] [], body := bodyOf Tryz.f67, res := [.tmp 3], ins := [.ro kClue, .rb 32 kStairs], out := [(kbool, true)], T := Bool, fin := fun r => r.1.1, inj := fun t => ((t, ()), ((), (), ())), pts := [], fuel := 400, dr := noDr }
noncomputable def i_solutions_c1_c1 (c0_Kind : Int) (c0_A : Int) (c0_B : Int) (x1_Steps : Int) (x1_Strides : List Int) (x1_Broken : List Int) : Option Bool :=
  Option.bind (i_fits c0_Kind c0_A c0_B x1_Steps x1_Strides x1_Broken) fun r => some !r
theorem i_solutions_c1_c1_e (c0_Kind : Int) (c0_A : Int) (c0_B : Int) (x1_Steps : Int) (x1_Strides : List Int) (x1_Broken : List Int) : c_i_solutions_c1_c1.start c_i_solutions_c1_c1.L ((c0_Kind, c0_A, c0_B), (x1_Steps, x1_Strides, x1_Broken), ()) = i_solutions_c1_c1 c0_Kind c0_A c0_B x1_Steps x1_Strides x1_Broken := by kernel_rfl
noncomputable def F_i_solutions_c1_c1 : Ins c_i_solutions_c1_c1.ins → Option Bool := fun x => i_solutions_c1_c1 x.1.1 x.1.2.1 x.1.2.2 x.2.1.1 x.2.1.2.1 x.2.1.2.2
noncomputable def S_i_solutions_c1_c1 : FSpec := mkF c_i_solutions_c1_c1.env.pre c_i_solutions_c1_c1.ins c_i_solutions_c1_c1.out c_i_solutions_c1_c1.inj F_i_solutions_c1_c1
theorem h_i_solutions_c1_c1 : Cert Tryz.prog 67 S_i_solutions_c1_c1 := FnCx.certF (c := c_i_solutions_c1_c1) F_i_solutions_c1_c1 (tyOk _ _ _) (spOk ⟨h_i_fits, fun _ _ h => h, trivial⟩) (fun _ _ _ _ _ hs => noDr_ok) Tryz.func67 rfl rfl Tryz.ntmps67 (by kernel_rfl) rfl rfl (fun _ => rfl) trivial (fun x => .inl ⟨c_i_solutions_c1_c1.start () x, fun _ => rfl⟩) (fun x t hb ht => by
  obtain ⟨⟨c0_Kind, c0_A, c0_B⟩, ⟨x1_Steps, x1_Strides, x1_Broken⟩, _⟩ := x
  exact (i_solutions_c1_c1_e c0_Kind c0_A c0_B x1_Steps x1_Strides x1_Broken).trans ht)
/-! slices.IndexFunc[[]impl.Clue,impl.Clue] -/
noncomputable def c_slices_IndexFunc_Clue__i_solutions_c1_c1 : FnCx := { env := env 19 [(67, S_i_solutions_c1_c1)] [], body := bodyOf Tryz.f83, res := [.tmp 4], ins := [.ro kSClue, .fr 67 [(32, kStairs)]], out := [(kint, true)], T := Int, fin := fun r => r.1.1, inj := fun t => ((t, ()), ((), (), ())), pts := [([.inLoop [1, 0, 1, 0, 0], .inBlock 0, .code [1, 1]], Shape.mk [Bs.row kClue 51 false, Bs.row kStairs 32 false] [(0, Ss.one (Cs.sl 0)), (1, Ss.fn 67 [Cs.ep 1 3]), (7, Ss.one (Cs.sc kint)), (8, Ss.one (Cs.sc kint))] [Ss.one (Cs.any), Ss.one (Cs.any)])], fuel := 400, dr := noDr }
noncomputable def slices_IndexFunc_Clue__i_solutions_c1_c1_t1 (g1 : List (Int × (Int × Int)) → List ((Int × (List (Int) × List (Int)))) → Int → Int → Option (Int)) (r0 : List (Int × (Int × Int))) (r1 : List ((Int × (List (Int) × List (Int))))) (s7 : Int) (s8 : Int) : Option Int :=
  bif decide (s8 < s7) then
    bif decide (0 ≤ s8) then
      bif decide (s8 < (↑(List.length r0) : Int)) then
        Option.bind
          (i_solutions_c1_c1 (Prod.fst (rdk kClue r0 s8))
            (Prod.fst (Prod.snd (rdk kClue r0 s8)))
            (Prod.snd (Prod.snd (rdk kClue r0 s8)))
            (Prod.fst (rdk kStairs r1 0)) (Prod.fst (Prod.snd (rdk kStairs r1 0))) (Prod.snd (Prod.snd (rdk kStairs r1 0))))
          fun r => bif r then some s8 else g1 r0 r1 s7 (IntKind.wrap IntKind.i64 (s8 + 1))
      else none
    else none
  else some (-1)
noncomputable def slices_IndexFunc_Clue__i_solutions_c1_c1_t0 (g1 : List (Int × (Int × Int)) → List ((Int × (List (Int) × List (Int)))) → Int → Int → Option (Int)) (s0 : List (Int × Int × Int)) (f1_0_Steps : Int) (f1_0_Strides : List Int) (f1_0_Broken : List Int) : Option Int :=
  g1 s0 [(f1_0_Steps, f1_0_Strides, f1_0_Broken)] (↑(List.length s0) : Int) 0
theorem slices_IndexFunc_Clue__i_solutions_c1_c1_ts : Tails c_slices_IndexFunc_Clue__i_solutions_c1_c1.pts c_slices_IndexFunc_Clue__i_solutions_c1_c1.round :=
  ⟨fun s => by
    obtain ⟨⟨r0, r1, _⟩, ⟨_, ⟨_, _⟩, s7, s8, _⟩, ⟨_, _, _⟩⟩ := s
    refine Tail.eq (Y := fun g => slices_IndexFunc_Clue__i_solutions_c1_c1_t1 (fun r0 r1 s7 s8 => g.1 ((r0, r1, ()), ((), ((), ()), s7, s8, ()), ((), (), ()))) r0 r1 s7 s8) ?_ (fun g => by kernel_rfl)
    simp only [slices_IndexFunc_Clue__i_solutions_c1_c1_t1]; repeat (first | exact Tail.const _ | exact Tail.here _ | exact Tail.there (Tail.here _) | exact Tail.there (Tail.there (Tail.here _)) | exact Tail.there (Tail.there (Tail.there (Tail.here _))) | exact Tail.there (Tail.there (Tail.there (Tail.there (Tail.here _)))) | exact Tail.there (Tail.there (Tail.there (Tail.there (Tail.there (Tail.here _))))) | apply Tail.cond | (apply Tail.bind; intro _)), trivial⟩
theorem slices_IndexFunc_Clue__i_solutions_c1_c1_hs : ∀ x, Tail c_slices_IndexFunc_Clue__i_solutions_c1_c1.pts (fun g => c_slices_IndexFunc_Clue__i_solutions_c1_c1.start g x) := fun x => by
    obtain ⟨s0, ⟨⟨f1_0_Steps, f1_0_Strides, f1_0_Broken⟩, _⟩, _⟩ := x
    refine Tail.eq (Y := fun g => slices_IndexFunc_Clue__i_solutions_c1_c1_t0 (fun r0 r1 s7 s8 => g.1 ((r0, r1, ()), ((), ((), ()), s7, s8, ()), ((), (), ()))) s0 f1_0_Steps f1_0_Strides f1_0_Broken) ?_ (fun g => by kernel_rfl)
    simp only [slices_IndexFunc_Clue__i_solutions_c1_c1_t0]; repeat (first | exact Tail.const _ | exact Tail.here _ | exact Tail.there (Tail.here _) | exact Tail.there (Tail.there (Tail.here _)) | exact Tail.there (Tail.there (Tail.there (Tail.here _))) | exact Tail.there (Tail.there (Tail.there (Tail.there (Tail.here _)))) | exact Tail.there (Tail.there (Tail.there (Tail.there (Tail.there (Tail.here _))))) | apply Tail.cond | (apply Tail.bind; intro _))
noncomputable def slices_IndexFunc_Clue__i_solutions_c1_c1_L1 (r0 : List (Int × (Int × Int))) (r1 : List ((Int × (List (Int) × List (Int))))) (s7 : Int) (s8 : Int) : Option Int := c_slices_IndexFunc_Clue__i_solutions_c1_c1.L.1 ((r0, r1, ()), ((), ((), ()), s7, s8, ()), ((), (), ()))
theorem slices_IndexFunc_Clue__i_solutions_c1_c1_u1 (r0 : List (Int × (Int × Int))) (r1 : List ((Int × (List (Int) × List (Int))))) (s7 : Int) (s8 : Int) : slices_IndexFunc_Clue__i_solutions_c1_c1_L1 r0 r1 s7 s8 = slices_IndexFunc_Clue__i_solutions_c1_c1_t1 slices_IndexFunc_Clue__i_solutions_c1_c1_L1 r0 r1 s7 s8 :=
  (congrArg (fun g => g.1 ((r0, r1, ()), ((), ((), ()), s7, s8, ()), ((), (), ()))) (FnCx.L_eq slices_IndexFunc_Clue__i_solutions_c1_c1_ts)).trans (by kernel_rfl)
noncomputable def slices_IndexFunc_Clue__i_solutions_c1_c1 (s0 : List (Int × Int × Int)) (f1_0_Steps : Int) (f1_0_Strides : List Int) (f1_0_Broken : List Int) : Option Int := slices_IndexFunc_Clue__i_solutions_c1_c1_t0 slices_IndexFunc_Clue__i_solutions_c1_c1_L1 s0 f1_0_Steps f1_0_Strides f1_0_Broken
theorem slices_IndexFunc_Clue__i_solutions_c1_c1_e (s0 : List (Int × Int × Int)) (f1_0_Steps : Int) (f1_0_Strides : List Int) (f1_0_Broken : List Int) : c_slices_IndexFunc_Clue__i_solutions_c1_c1.start c_slices_IndexFunc_Clue__i_solutions_c1_c1.L (s0, ((f1_0_Steps, f1_0_Strides, f1_0_Broken), ()), ()) = slices_IndexFunc_Clue__i_solutions_c1_c1 s0 f1_0_Steps f1_0_Strides f1_0_Broken := by kernel_rfl
noncomputable def F_slices_IndexFunc_Clue__i_solutions_c1_c1 : Ins c_slices_IndexFunc_Clue__i_solutions_c1_c1.ins → Option Int := fun x => slices_IndexFunc_Clue__i_solutions_c1_c1 x.1 x.2.1.1.1 x.2.1.1.2.1 x.2.1.1.2.2
noncomputable def S_slices_IndexFunc_Clue__i_solutions_c1_c1 : FSpec := mkF c_slices_IndexFunc_Clue__i_solutions_c1_c1.env.pre c_slices_IndexFunc_Clue__i_solutions_c1_c1.ins c_slices_IndexFunc_Clue__i_solutions_c1_c1.out c_slices_IndexFunc_Clue__i_solutions_c1_c1.inj F_slices_IndexFunc_Clue__i_solutions_c1_c1
theorem h_slices_IndexFunc_Clue__i_solutions_c1_c1 : Cert Tryz.prog 83 S_slices_IndexFunc_Clue__i_solutions_c1_c1 := FnCx.certF (c := c_slices_IndexFunc_Clue__i_solutions_c1_c1) F_slices_IndexFunc_Clue__i_solutions_c1_c1 (tyOk _ _ _) (spOk ⟨h_i_solutions_c1_c1, fun _ _ h => h, trivial⟩) (fun _ _ _ _ _ hs => noDr_ok) Tryz.func83 rfl rfl Tryz.ntmps83 (by kernel_rfl) rfl rfl (fun _ => rfl) slices_IndexFunc_Clue__i_solutions_c1_c1_ts slices_IndexFunc_Clue__i_solutions_c1_c1_hs (fun x t hb ht => by
  obtain ⟨s0, ⟨⟨f1_0_Steps, f1_0_Strides, f1_0_Broken⟩, _⟩, _⟩ := x
  exact (slices_IndexFunc_Clue__i_solutions_c1_c1_e s0 f1_0_Steps f1_0_Strides f1_0_Broken).trans ht)
/-! slices.ContainsFunc[[]impl.Clue,impl.Clue] -/
noncomputable def c_slices_ContainsFunc_Clue__i_solutions_c1_c1 : FnCx := { env := env 9 [(83, S_slices_IndexFunc_Clue__i_solutions_c1_c1)] [], body := bodyOf Tryz.f50, res := [.tmp 4], ins := [.ro kSClue, .fr 67 [(32, kStairs)]], out := [(kbool, true)], T := Bool, fin := fun r => r.1.1, inj := fun t => ((t, ()), ((), (), ())), pts := [], fuel := 400, dr := noDr }
noncomputable def slices_ContainsFunc_Clue__i_solutions_c1_c1 (s0 : List (Int × Int × Int)) (f1_0_Steps : Int) (f1_0_Strides : List Int) (f1_0_Broken : List Int) : Option Bool :=
  Option.bind (slices_IndexFunc_Clue__i_solutions_c1_c1 s0 f1_0_Steps f1_0_Strides f1_0_Broken) fun r => some (decide (r ≥ 0))
theorem slices_ContainsFunc_Clue__i_solutions_c1_c1_e (s0 : List (Int × Int × Int)) (f1_0_Steps : Int) (f1_0_Strides : List Int) (f1_0_Broken : List Int) : c_slices_ContainsFunc_Clue__i_solutions_c1_c1.start c_slices_ContainsFunc_Clue__i_solutions_c1_c1.L (s0, ((f1_0_Steps, f1_0_Strides, f1_0_Broken), ()), ()) = slices_ContainsFunc_Clue__i_solutions_c1_c1 s0 f1_0_Steps f1_0_Strides f1_0_Broken := by kernel_rfl
noncomputable def F_slices_ContainsFunc_Clue__i_solutions_c1_c1 : Ins c_slices_ContainsFunc_Clue__i_solutions_c1_c1.ins → Option Bool := fun x => slices_ContainsFunc_Clue__i_solutions_c1_c1 x.1 x.2.1.1.1 x.2.1.1.2.1 x.2.1.1.2.2
noncomputable def S_slices_ContainsFunc_Clue__i_solutions_c1_c1 : FSpec := mkF c_slices_ContainsFunc_Clue__i_solutions_c1_c1.env.pre c_slices_ContainsFunc_Clue__i_solutions_c1_c1.ins c_slices_ContainsFunc_Clue__i_solutions_c1_c1.out c_slices_ContainsFunc_Clue__i_solutions_c1_c1.inj F_slices_ContainsFunc_Clue__i_solutions_c1_c1
theorem h_slices_ContainsFunc_Clue__i_solutions_c1_c1 : Cert Tryz.prog 50 S_slices_ContainsFunc_Clue__i_solutions_c1_c1 := FnCx.certF (c := c_slices_ContainsFunc_Clue__i_solutions_c1_c1) F_slices_ContainsFunc_Clue__i_solutions_c1_c1 (tyOk _ _ _) (spOk ⟨h_slices_IndexFunc_Clue__i_solutions_c1_c1, fun _ _ h => h, trivial⟩) (fun _ _ _ _ _ hs => noDr_ok) Tryz.func50 rfl rfl Tryz.ntmps50 (by kernel_rfl) rfl rfl (fun _ => rfl) trivial (fun x => .inl ⟨c_slices_ContainsFunc_Clue__i_solutions_c1_c1.start () x, fun _ => rfl⟩) (fun x t hb ht => by
  obtain ⟨s0, ⟨⟨f1_0_Steps, f1_0_Strides, f1_0_Broken⟩, _⟩, _⟩ := x
  exact (slices_ContainsFunc_Clue__i_solutions_c1_c1_e s0 f1_0_Steps f1_0_Strides f1_0_Broken).trans ht)
/-! impl.solutions$1 -/
noncomputable def c_i_solutions_c1 : FnCx := { env := env 7 [(50, S_slices_ContainsFunc_Clue__i_solutions_c1_c1)] [], body := bodyOf Tryz.f66, res := [.tmp 3], ins := [.ro kStairs, .rb 22 kSClue], out := [(kbool, true)], T := Bool, fin := fun r => r.1.1, inj := fun t => ((t, ()), ((), (), ())), pts := [], fuel := 400, dr := noDr }
noncomputable def i_solutions_c1 (s0_Steps : Int) (s0_Strides : List Int) (s0_Broken : List Int) (x1 : List (Int × Int × Int)) : Option Bool :=
  Option.bind (slices_ContainsFunc_Clue__i_solutions_c1_c1 (rdk kSClue [x1] 0) s0_Steps s0_Strides s0_Broken) fun r => some r
theorem i_solutions_c1_e (s0_Steps : Int) (s0_Strides : List Int) (s0_Broken : List Int) (x1 : List (Int × Int × Int)) : c_i_solutions_c1.start c_i_solutions_c1.L ((s0_Steps, s0_Strides, s0_Broken), x1, ()) = i_solutions_c1 s0_Steps s0_Strides s0_Broken x1 := by kernel_rfl
noncomputable def F_i_solutions_c1 : Ins c_i_solutions_c1.ins → Option Bool := fun x => i_solutions_c1 x.1.1 x.1.2.1 x.1.2.2 x.2.1
noncomputable def S_i_solutions_c1 : FSpec := mkF c_i_solutions_c1.env.pre c_i_solutions_c1.ins c_i_solutions_c1.out c_i_solutions_c1.inj F_i_solutions_c1
theorem h_i_solutions_c1 : Cert Tryz.prog 66 S_i_solutions_c1 := FnCx.certF (c := c_i_solutions_c1) F_i_solutions_c1 (tyOk _ _ _) (spOk ⟨h_slices_ContainsFunc_Clue__i_solutions_c1_c1, fun _ _ h => h, trivial⟩) (fun _ _ _ _ _ hs => noDr_ok) Tryz.func66 rfl rfl Tryz.ntmps66 (by kernel_rfl) rfl rfl (fun _ => rfl) trivial (fun x => .inl ⟨c_i_solutions_c1.start () x, fun _ => rfl⟩) (fun x t hb ht => by
  obtain ⟨⟨s0_Steps, s0_Strides, s0_Broken⟩, x1, _⟩ := x
  exact (i_solutions_c1_e s0_Steps s0_Strides s0_Broken x1).trans ht)
section
variable [RawD]
/-! impl.solutions$1 -/
noncomputable def i_solutions_c1R (s0_Steps : Int) (s0_Strides : Raw) (s0_Broken : Raw) (x1 : List ((Int × Int × Int))) : Option (Bool) := (RawD.D (s0_Steps, s0_Strides, s0_Broken)).bind fun y => F_i_solutions_c1 (y, (x1, ()))
noncomputable def F_i_solutions_c1R : Ins [.ro kStairsR, .rb 22 kSClue] → Option (Bool) := fun x => i_solutions_c1R x.1.1 x.1.2.1 x.1.2.2 x.2.1
noncomputable def S_i_solutions_c1R : FSpec := mkF (T := Bool) (PreD textPre kStairs RawD.D) [.ro kStairsR, .rb 22 kSClue] [(kbool, true)] (fun t => ((t, ()), ((), (), ()))) F_i_solutions_c1R
theorem h_i_solutions_c1R : Cert Tryz.prog 66 S_i_solutions_c1R := raw_arg h_i_solutions_c1 RawD.D
end
section
variable [RawD]
/-! slices.IndexFunc[[]impl.Stairs,impl.Stairs] -/
noncomputable def c_slices_IndexFunc_Stairs__i_solutions_c1R : FnCx := { env := envR 19 [(66, S_i_solutions_c1R)] [], body := bodyOf Tryz.f93, res := [.tmp 4], ins := [.ro kSStairsR, .fr 66 [(22, kSClue)]], out := [(kint, true)], T := Int, fin := fun r => r.1.1, inj := fun t => ((t, ()), ((), (), ())), pts := [([.inLoop [1, 0, 1, 0, 0], .inBlock 0, .code [1, 1]], Shape.mk [Bs.row (Kd.st (Kd.pair kint (Kd.pair Kd.raw Kd.raw))) 32 false, Bs.row kSClue 22 false] [(0, Ss.one (Cs.sl 0)), (1, Ss.fn 66 [Cs.ep 1 1]), (7, Ss.one (Cs.sc kint)), (8, Ss.one (Cs.sc kint))] [Ss.one (Cs.any), Ss.one (Cs.any)])], fuel := 400, dr := noDr }
noncomputable def slices_IndexFunc_Stairs__i_solutions_c1R_t1 (g1 : List ((Int × (Raw × Raw))) → List (List (Int × (Int × Int))) → Int → Int → Option (Int)) (r0 : List ((Int × (Raw × Raw)))) (r1 : List (List (Int × (Int × Int)))) (s7 : Int) (s8 : Int) : Option Int :=
  bif decide (s8 < s7) then
    bif decide (0 ≤ s8) then
      bif decide (s8 < (↑(List.length r0) : Int)) then
        Option.bind
          (i_solutions_c1R (Prod.fst (rdk (Kd.st (Kd.pair kint (Kd.pair Kd.raw Kd.raw))) r0 s8))
            (Prod.fst (Prod.snd (rdk (Kd.st (Kd.pair kint (Kd.pair Kd.raw Kd.raw))) r0 s8)))
            (Prod.snd (Prod.snd (rdk (Kd.st (Kd.pair kint (Kd.pair Kd.raw Kd.raw))) r0 s8))) (rdk kSClue r1 0))
          fun r => bif r then some s8 else g1 r0 r1 s7 (IntKind.wrap IntKind.i64 (s8 + 1))
      else none
    else none
  else some (-1)
noncomputable def slices_IndexFunc_Stairs__i_solutions_c1R_t0 (g1 : List ((Int × (Raw × Raw))) → List (List (Int × (Int × Int))) → Int → Int → Option (Int)) (s0 : List ((Int × Raw × Raw))) (f1_0 : List (Int × Int × Int)) : Option Int :=
  g1 s0 [f1_0] (↑(List.length s0) : Int) 0
theorem slices_IndexFunc_Stairs__i_solutions_c1R_ts : Tails c_slices_IndexFunc_Stairs__i_solutions_c1R.pts c_slices_IndexFunc_Stairs__i_solutions_c1R.round :=
  ⟨fun s => by
    obtain ⟨⟨r0, r1, _⟩, ⟨_, ⟨_, _⟩, s7, s8, _⟩, ⟨_, _, _⟩⟩ := s
    refine Tail.eq (Y := fun g => slices_IndexFunc_Stairs__i_solutions_c1R_t1 (fun r0 r1 s7 s8 => g.1 ((r0, r1, ()), ((), ((), ()), s7, s8, ()), ((), (), ()))) r0 r1 s7 s8) ?_ (fun g => by kernel_rfl)
    simp only [slices_IndexFunc_Stairs__i_solutions_c1R_t1]; repeat (first | exact Tail.const _ | exact Tail.here _ | exact Tail.there (Tail.here _) | exact Tail.there (Tail.there (Tail.here _)) | exact Tail.there (Tail.there (Tail.there (Tail.here _))) | exact Tail.there (Tail.there (Tail.there (Tail.there (Tail.here _)))) | exact Tail.there (Tail.there (Tail.there (Tail.there (Tail.there (Tail.here _))))) | apply Tail.cond | (apply Tail.bind; intro _)), trivial⟩
theorem slices_IndexFunc_Stairs__i_solutions_c1R_hs : ∀ x, Tail c_slices_IndexFunc_Stairs__i_solutions_c1R.pts (fun g => c_slices_IndexFunc_Stairs__i_solutions_c1R.start g x) := fun x => by
    obtain ⟨s0, ⟨f1_0, _⟩, _⟩ := x
    refine Tail.eq (Y := fun g => slices_IndexFunc_Stairs__i_solutions_c1R_t0 (fun r0 r1 s7 s8 => g.1 ((r0, r1, ()), ((), ((), ()), s7, s8, ()), ((), (), ()))) s0 f1_0) ?_ (fun g => by kernel_rfl)
    simp only [slices_IndexFunc_Stairs__i_solutions_c1R_t0]; repeat (first | exact Tail.const _ | exact Tail.here _ | exact Tail.there (Tail.here _) | exact Tail.there (Tail.there (Tail.here _)) | exact Tail.there (Tail.there (Tail.there (Tail.here _))) | exact Tail.there (Tail.there (Tail.there (Tail.there (Tail.here _)))) | exact Tail.there (Tail.there (Tail.there (Tail.there (Tail.there (Tail.here _))))) | apply Tail.cond | (apply Tail.bind; intro _))
noncomputable def slices_IndexFunc_Stairs__i_solutions_c1R_L1 (r0 : List ((Int × (Raw × Raw)))) (r1 : List (List (Int × (Int × Int)))) (s7 : Int) (s8 : Int) : Option Int := c_slices_IndexFunc_Stairs__i_solutions_c1R.L.1 ((r0, r1, ()), ((), ((), ()), s7, s8, ()), ((), (), ()))
theorem slices_IndexFunc_Stairs__i_solutions_c1R_u1 (r0 : List ((Int × (Raw × Raw)))) (r1 : List (List (Int × (Int × Int)))) (s7 : Int) (s8 : Int) : slices_IndexFunc_Stairs__i_solutions_c1R_L1 r0 r1 s7 s8 = slices_IndexFunc_Stairs__i_solutions_c1R_t1 slices_IndexFunc_Stairs__i_solutions_c1R_L1 r0 r1 s7 s8 :=
  (congrArg (fun g => g.1 ((r0, r1, ()), ((), ((), ()), s7, s8, ()), ((), (), ()))) (FnCx.L_eq slices_IndexFunc_Stairs__i_solutions_c1R_ts)).trans (by kernel_rfl)
noncomputable def slices_IndexFunc_Stairs__i_solutions_c1R (s0 : List ((Int × Raw × Raw))) (f1_0 : List (Int × Int × Int)) : Option Int := slices_IndexFunc_Stairs__i_solutions_c1R_t0 slices_IndexFunc_Stairs__i_solutions_c1R_L1 s0 f1_0
theorem slices_IndexFunc_Stairs__i_solutions_c1R_e (s0 : List ((Int × Raw × Raw))) (f1_0 : List (Int × Int × Int)) : c_slices_IndexFunc_Stairs__i_solutions_c1R.start c_slices_IndexFunc_Stairs__i_solutions_c1R.L (s0, (f1_0, ()), ()) = slices_IndexFunc_Stairs__i_solutions_c1R s0 f1_0 := by kernel_rfl
-- NICE opt
noncomputable def slices_IndexFunc_Stairs__i_solutions_c1R_n (l : List (Int × Raw × Raw)) (cl : List (Int × Int × Int)) : Option Int :=
  bif l.all (fun r => (i_solutions_c1R r.1 r.2.1 r.2.2 cl).isSome) then some (idxF (fun r => (i_solutions_c1R r.1 r.2.1 r.2.2 cl).getD false) l 0) else none
theorem slices_IndexFunc_Stairs__i_solutions_c1R_ok (l : List (Int × Raw × Raw)) (cl : List (Int × Int × Int)) (hb : BdI c_slices_IndexFunc_Stairs__i_solutions_c1R.ins (l, (cl, ()), ())) (t : Int) (ht : slices_IndexFunc_Stairs__i_solutions_c1R_n l cl = some t) :
    slices_IndexFunc_Stairs__i_solutions_c1R l cl = some t := by
  unfold slices_IndexFunc_Stairs__i_solutions_c1R_n at ht
  cases hall : l.all (fun r => (i_solutions_c1R r.1 r.2.1 r.2.2 cl).isSome)
  · rw [hall] at ht; cases ht
  rw [hall, cond_true] at ht
  cases ht
  have hm : l.length ≤ maxLen := hb.1.1
  exact loop_idxO (fun i => i) (L := fun i => slices_IndexFunc_Stairs__i_solutions_c1R_L1 l [cl] l.length (i : Int)) (l := l) (p := fun r => i_solutions_c1R r.1 r.2.1 r.2.2 cl)
    (List.all_eq_true.1 hall)
    (fun i h => by
      have e0 : rdk kSClue [cl] 0 = cl := rfl
      simp only [slices_IndexFunc_Stairs__i_solutions_c1R_u1 l [cl] l.length i, slices_IndexFunc_Stairs__i_solutions_c1R_t1, rdk_get (k := kStairsR) h, wrapS h hm, e0]
      simp [h])
    (by simp [slices_IndexFunc_Stairs__i_solutions_c1R_u1 l [cl] l.length l.length, slices_IndexFunc_Stairs__i_solutions_c1R_t1])
noncomputable def F_slices_IndexFunc_Stairs__i_solutions_c1R : Ins c_slices_IndexFunc_Stairs__i_solutions_c1R.ins → Option Int := fun x => slices_IndexFunc_Stairs__i_solutions_c1R_n x.1 x.2.1.1
noncomputable def S_slices_IndexFunc_Stairs__i_solutions_c1R : FSpec := mkF c_slices_IndexFunc_Stairs__i_solutions_c1R.env.pre c_slices_IndexFunc_Stairs__i_solutions_c1R.ins c_slices_IndexFunc_Stairs__i_solutions_c1R.out c_slices_IndexFunc_Stairs__i_solutions_c1R.inj F_slices_IndexFunc_Stairs__i_solutions_c1R
theorem h_slices_IndexFunc_Stairs__i_solutions_c1R : Cert Tryz.prog 93 S_slices_IndexFunc_Stairs__i_solutions_c1R := FnCx.certF (c := c_slices_IndexFunc_Stairs__i_solutions_c1R) F_slices_IndexFunc_Stairs__i_solutions_c1R (tyOkR _ _ _) (spOkR ⟨h_i_solutions_c1R, fun _ _ h => h, trivial⟩) (fun _ _ _ _ _ hs => noDr_ok) Tryz.func93 rfl rfl Tryz.ntmps93 (by kernel_rfl) rfl rfl (fun _ => rfl) slices_IndexFunc_Stairs__i_solutions_c1R_ts slices_IndexFunc_Stairs__i_solutions_c1R_hs (fun x t hb ht => by
  obtain ⟨s0, ⟨f1_0, _⟩, _⟩ := x
  exact (slices_IndexFunc_Stairs__i_solutions_c1R_e s0 f1_0).trans (slices_IndexFunc_Stairs__i_solutions_c1R_ok s0 f1_0 hb t ht))
end
section
variable [RawD]
/-! slices.DeleteFunc[[]impl.Stairs,impl.Stairs] -/
noncomputable def c_slices_DeleteFunc_Stairs__i_solutions_c1R : FnCx := { env := envR 42 [(93, S_slices_IndexFunc_Stairs__i_solutions_c1R), (66, S_i_solutions_c1R)] [38, 41], body := bodyOf Tryz.f64, res := [.tmp 4], ins := [.mv kSStairsR, .fr 66 [(22, kSClue)]], out := [(kSStairsR, true)], T := List ((Int × Raw × Raw)), fin := fun r => r.1.1, inj := fun t => ((t, ()), ((), (), ())), pts := [([.inLoop [1, 1, 1, 0, 1, 0, 0], .inBlock 0, .code [1, 1, 1, 1]], Shape.mk [Bs.row (Kd.st (Kd.pair kint (Kd.pair Kd.raw Kd.raw))) 32 true, Bs.row kSClue 22 false] [(0, Ss.one (Cs.sl 0)), (1, Ss.fn 66 [Cs.ep 1 1]), (5, Ss.one (Cs.sc kint)), (6, Ss.one (Cs.sc kint))] [Ss.one (Cs.any), Ss.one (Cs.any)])], fuel := 400, dr := noDr }
noncomputable def slices_DeleteFunc_Stairs__i_solutions_c1R_t1 (g1 : List ((Int × (Raw × Raw))) → List (List (Int × (Int × Int))) → Int → Int → Option (List ((Int × Raw × Raw)))) (r0 : List ((Int × (Raw × Raw)))) (r1 : List (List (Int × (Int × Int)))) (i5 : Int) (j6 : Int) : Option (List ((Int × Raw × Raw))) :=
  bif decide (j6 < (↑(List.length r0) : Int)) then
    bif decide (0 ≤ j6) then
      bif decide (j6 < (↑(List.length r0) : Int)) then
        Option.bind
          (i_solutions_c1R (Prod.fst (rdk (Kd.st (Kd.pair kint (Kd.pair Kd.raw Kd.raw))) r0 j6))
            (Prod.fst (Prod.snd (rdk (Kd.st (Kd.pair kint (Kd.pair Kd.raw Kd.raw))) r0 j6)))
            (Prod.snd (Prod.snd (rdk (Kd.st (Kd.pair kint (Kd.pair Kd.raw Kd.raw))) r0 j6))) (rdk kSClue r1 0))
          fun r =>
          bif !r then
            bif decide (0 ≤ i5) then
              bif decide (i5 < (↑(List.length r0) : Int)) then
                g1
                  (List.set r0 (Int.toNat i5)
                    (Prod.fst (rdk (Kd.st (Kd.pair kint (Kd.pair Kd.raw Kd.raw))) r0 j6),
                      Prod.fst (Prod.snd (rdk (Kd.st (Kd.pair kint (Kd.pair Kd.raw Kd.raw))) r0 j6)),
                      Prod.snd (Prod.snd (rdk (Kd.st (Kd.pair kint (Kd.pair Kd.raw Kd.raw))) r0 j6))))
                  r1 (IntKind.wrap IntKind.i64 (i5 + 1)) (IntKind.wrap IntKind.i64 (j6 + 1))
              else none
            else none
          else g1 r0 r1 i5 (IntKind.wrap IntKind.i64 (j6 + 1))
      else none
    else none
  else
    bif decide (0 ≤ i5) then
      bif decide (i5 ≤ (↑(List.length r0) : Int)) then
        bif decide (0 ≤ i5) then
          bif
              decide
                (i5 ≤
                  (↑(List.length
                        (List.take (Int.toNat i5) r0 ++
                          List.replicate (List.length r0 - Int.toNat i5) (Kd.zero (Kd.st (Kd.pair kint (Kd.pair Kd.raw Kd.raw)))))) :
                    Int)) then
            some
              (List.take (Int.toNat i5)
                (List.take (Int.toNat i5) r0 ++
                  List.replicate (List.length r0 - Int.toNat i5) (Kd.zero (Kd.st (Kd.pair kint (Kd.pair Kd.raw Kd.raw))))))
          else none
        else none
      else none
    else none
noncomputable def slices_DeleteFunc_Stairs__i_solutions_c1R_t0 (g1 : List ((Int × (Raw × Raw))) → List (List (Int × (Int × Int))) → Int → Int → Option (List ((Int × Raw × Raw)))) (s0 : List ((Int × Raw × Raw))) (del1_0 : List (Int × Int × Int)) : Option (List ((Int × Raw × Raw))) :=
  Option.bind (slices_IndexFunc_Stairs__i_solutions_c1R_n s0 (rdk kSClue [del1_0] 0)) fun r =>
    bif r == -1 then some s0 else g1 s0 [del1_0] r (IntKind.wrap IntKind.i64 (r + 1))
theorem slices_DeleteFunc_Stairs__i_solutions_c1R_ts : Tails c_slices_DeleteFunc_Stairs__i_solutions_c1R.pts c_slices_DeleteFunc_Stairs__i_solutions_c1R.round :=
  ⟨fun s => by
    obtain ⟨⟨r0, r1, _⟩, ⟨_, ⟨_, _⟩, i5, j6, _⟩, ⟨_, _, _⟩⟩ := s
    refine Tail.eq (Y := fun g => slices_DeleteFunc_Stairs__i_solutions_c1R_t1 (fun r0 r1 i5 j6 => g.1 ((r0, r1, ()), ((), ((), ()), i5, j6, ()), ((), (), ()))) r0 r1 i5 j6) ?_ (fun g => by kernel_rfl)
    simp only [slices_DeleteFunc_Stairs__i_solutions_c1R_t1]; repeat (first | exact Tail.const _ | exact Tail.here _ | exact Tail.there (Tail.here _) | exact Tail.there (Tail.there (Tail.here _)) | exact Tail.there (Tail.there (Tail.there (Tail.here _))) | exact Tail.there (Tail.there (Tail.there (Tail.there (Tail.here _)))) | exact Tail.there (Tail.there (Tail.there (Tail.there (Tail.there (Tail.here _))))) | apply Tail.cond | (apply Tail.bind; intro _)), trivial⟩
theorem slices_DeleteFunc_Stairs__i_solutions_c1R_hs : ∀ x, Tail c_slices_DeleteFunc_Stairs__i_solutions_c1R.pts (fun g => c_slices_DeleteFunc_Stairs__i_solutions_c1R.start g x) := fun x => by
    obtain ⟨s0, ⟨del1_0, _⟩, _⟩ := x
    refine Tail.eq (Y := fun g => slices_DeleteFunc_Stairs__i_solutions_c1R_t0 (fun r0 r1 i5 j6 => g.1 ((r0, r1, ()), ((), ((), ()), i5, j6, ()), ((), (), ()))) s0 del1_0) ?_ (fun g => by kernel_rfl)
    simp only [slices_DeleteFunc_Stairs__i_solutions_c1R_t0]; repeat (first | exact Tail.const _ | exact Tail.here _ | exact Tail.there (Tail.here _) | exact Tail.there (Tail.there (Tail.here _)) | exact Tail.there (Tail.there (Tail.there (Tail.here _))) | exact Tail.there (Tail.there (Tail.there (Tail.there (Tail.here _)))) | exact Tail.there (Tail.there (Tail.there (Tail.there (Tail.there (Tail.here _))))) | apply Tail.cond | (apply Tail.bind; intro _))
noncomputable def slices_DeleteFunc_Stairs__i_solutions_c1R_L1 (r0 : List ((Int × (Raw × Raw)))) (r1 : List (List (Int × (Int × Int)))) (i5 : Int) (j6 : Int) : Option (List ((Int × Raw × Raw))) := c_slices_DeleteFunc_Stairs__i_solutions_c1R.L.1 ((r0, r1, ()), ((), ((), ()), i5, j6, ()), ((), (), ()))
theorem slices_DeleteFunc_Stairs__i_solutions_c1R_u1 (r0 : List ((Int × (Raw × Raw)))) (r1 : List (List (Int × (Int × Int)))) (i5 : Int) (j6 : Int) : slices_DeleteFunc_Stairs__i_solutions_c1R_L1 r0 r1 i5 j6 = slices_DeleteFunc_Stairs__i_solutions_c1R_t1 slices_DeleteFunc_Stairs__i_solutions_c1R_L1 r0 r1 i5 j6 :=
  (congrArg (fun g => g.1 ((r0, r1, ()), ((), ((), ()), i5, j6, ()), ((), (), ()))) (FnCx.L_eq slices_DeleteFunc_Stairs__i_solutions_c1R_ts)).trans (by kernel_rfl)
noncomputable def slices_DeleteFunc_Stairs__i_solutions_c1R (s0 : List ((Int × Raw × Raw))) (del1_0 : List (Int × Int × Int)) : Option (List ((Int × Raw × Raw))) := slices_DeleteFunc_Stairs__i_solutions_c1R_t0 slices_DeleteFunc_Stairs__i_solutions_c1R_L1 s0 del1_0
theorem slices_DeleteFunc_Stairs__i_solutions_c1R_e (s0 : List ((Int × Raw × Raw))) (del1_0 : List (Int × Int × Int)) : c_slices_DeleteFunc_Stairs__i_solutions_c1R.start c_slices_DeleteFunc_Stairs__i_solutions_c1R.L (s0, (del1_0, ()), ()) = slices_DeleteFunc_Stairs__i_solutions_c1R s0 del1_0 := by kernel_rfl
-- NICE opt
noncomputable def slices_DeleteFunc_Stairs__i_solutions_c1R_n (l : List (Int × Raw × Raw)) (cl : List (Int × Int × Int)) : Option (List (Int × Raw × Raw)) :=
  bif l.all (fun r => (i_solutions_c1R r.1 r.2.1 r.2.2 cl).isSome) then some (l.filter fun r => !(i_solutions_c1R r.1 r.2.1 r.2.2 cl).getD false) else none
theorem slices_DeleteFunc_Stairs__i_solutions_c1R_ok (l : List (Int × Raw × Raw)) (cl : List (Int × Int × Int)) (hb : BdI c_slices_DeleteFunc_Stairs__i_solutions_c1R.ins (l, (cl, ()), ())) (t : List (Int × Raw × Raw)) (ht : slices_DeleteFunc_Stairs__i_solutions_c1R_n l cl = some t) :
    slices_DeleteFunc_Stairs__i_solutions_c1R l cl = some t := by
  unfold slices_DeleteFunc_Stairs__i_solutions_c1R_n at ht
  cases hall : l.all (fun r => (i_solutions_c1R r.1 r.2.1 r.2.2 cl).isSome)
  · rw [hall] at ht; cases ht
  rw [hall, cond_true] at ht
  cases ht
  have hm : l.length ≤ maxLen := hb.1.1
  unfold slices_DeleteFunc_Stairs__i_solutions_c1R slices_DeleteFunc_Stairs__i_solutions_c1R_t0
  have hi : slices_IndexFunc_Stairs__i_solutions_c1R_n l cl = some (idxF (fun r => (i_solutions_c1R r.1 r.2.1 r.2.2 cl).getD false) l 0) := by
    unfold slices_IndexFunc_Stairs__i_solutions_c1R_n; rw [hall]; rfl
  have e00 : rdk kSClue [cl] 0 = cl := rfl
  rw [e00, hi]
  rcases idxF_cases (fun r : Int × Raw × Raw => (i_solutions_c1R r.1 r.2.1 r.2.2 cl).getD false) l 0 with ⟨h1, h2⟩ | ⟨k, h1, h2, h3⟩
  · simp only [h1, h2, Option.bind_some]
    rfl
  · have hk : ¬ ((0 + k : Nat) : Int) = -1 := by omega
    have e := loop_deleteO (L := fun r i j => slices_DeleteFunc_Stairs__i_solutions_c1R_L1 r [cl] (i : Int) (j : Int)) (n := l.length) (p := fun r => i_solutions_c1R r.1 r.2.1 r.2.2 cl) (e := fun r => some r)
      (fun r i j h hij hr => by
        have e0 : rdk kSClue [cl] 0 = cl := rfl
        have hi : i < r.length := by omega
        have hrm : r.length ≤ maxLen := by rw [hr]; exact hm
        simp only [slices_DeleteFunc_Stairs__i_solutions_c1R_u1 r [cl] i j, slices_DeleteFunc_Stairs__i_solutions_c1R_t1, rdk_get (k := kStairsR) h, wrapS h hrm, wrapS hi hrm, Int.toNat_natCast, e0]
        simp [h, hi])
      (fun r i hi hr => by
        have h1 : ¬ (((l.length : Nat) : Int) < (r.length : Int)) := by omega
        have h2 : (i : Int) ≤ (r.length : Int) := by omega
        have h3 : (r.take i ++ List.replicate (r.length - i) (Kd.zero kStairsR)).length = r.length := by simp; omega
        have h4 : (r.take i ++ List.replicate (r.length - i) (Kd.zero kStairsR)).take i = r.take i := List.take_left' (by simp; omega)
        simp only [slices_DeleteFunc_Stairs__i_solutions_c1R_u1 r [cl] i l.length, slices_DeleteFunc_Stairs__i_solutions_c1R_t1, Int.toNat_natCast, h3, h4, decide_eq_false h1, decide_eq_true h2, decide_eq_true (Int.natCast_nonneg i), cond_true, cond_false])
      _ (k + 1) l k (List.all_eq_true.1 hall) rfl rfl (by omega) (by omega)
    simp only [Option.bind_some, h2]
    rw [← h3, beq_eq_false_iff_ne.2 hk, cond_false, Nat.zero_add, wrapS h1 hm]
    exact e
noncomputable def F_slices_DeleteFunc_Stairs__i_solutions_c1R : Ins c_slices_DeleteFunc_Stairs__i_solutions_c1R.ins → Option (List ((Int × Raw × Raw))) := fun x => slices_DeleteFunc_Stairs__i_solutions_c1R_n x.1 x.2.1.1
noncomputable def S_slices_DeleteFunc_Stairs__i_solutions_c1R : FSpec := mkF c_slices_DeleteFunc_Stairs__i_solutions_c1R.env.pre c_slices_DeleteFunc_Stairs__i_solutions_c1R.ins c_slices_DeleteFunc_Stairs__i_solutions_c1R.out c_slices_DeleteFunc_Stairs__i_solutions_c1R.inj F_slices_DeleteFunc_Stairs__i_solutions_c1R
theorem h_slices_DeleteFunc_Stairs__i_solutions_c1R : Cert Tryz.prog 64 S_slices_DeleteFunc_Stairs__i_solutions_c1R := FnCx.certF (c := c_slices_DeleteFunc_Stairs__i_solutions_c1R) F_slices_DeleteFunc_Stairs__i_solutions_c1R (tyOkR _ _ _) (spOkR ⟨h_slices_IndexFunc_Stairs__i_solutions_c1R, fun _ _ h => h, ⟨h_i_solutions_c1R, fun _ _ h => h, trivial⟩⟩) (fun _ _ _ _ _ hs => noDr_ok) Tryz.func64 rfl rfl Tryz.ntmps64 (by kernel_rfl) rfl rfl (fun _ => rfl) slices_DeleteFunc_Stairs__i_solutions_c1R_ts slices_DeleteFunc_Stairs__i_solutions_c1R_hs (fun x t hb ht => by
  obtain ⟨s0, ⟨del1_0, _⟩, _⟩ := x
  exact (slices_DeleteFunc_Stairs__i_solutions_c1R_e s0 del1_0).trans (slices_DeleteFunc_Stairs__i_solutions_c1R_ok s0 del1_0 hb t ht))
end
/-! slices.DeleteFunc[[]impl.Stairs,impl.Stairs] -/
/-- what the elements left in are told by -/
noncomputable def solKeep (y : Int × List Int × List Int) (c : CapTy [(22, kSClue)]) : Option Bool := F_i_solutions_c1 (y, c.1, ())
noncomputable def slices_DeleteFunc_Stairs__i_solutions_c1 (l : List (Int × List Int × List Int)) (cl : List (Int × Int × Int)) : Option (List (Int × List Int × List Int)) :=
  bif l.all (fun y => (F_i_solutions_c1 (y, cl, ())).isSome) then some (l.filter fun y => !(F_i_solutions_c1 (y, cl, ())).getD false) else none
noncomputable def F_slices_DeleteFunc_Stairs__i_solutions_c1 : Ins [.mv kSStairs, .fr 66 [(22, kSClue)]] → Option (List (Int × List Int × List Int)) := fun x => slices_DeleteFunc_Stairs__i_solutions_c1 x.1 x.2.1.1
noncomputable def S_slices_DeleteFunc_Stairs__i_solutions_c1 : FSpec := mkF textPre [.mv kSStairs, .fr 66 [(22, kSClue)]] [(kSStairs, true)] (fun t => ((t, ()), ((), (), ()))) F_slices_DeleteFunc_Stairs__i_solutions_c1
theorem h_slices_DeleteFunc_Stairs__i_solutions_c1 : Cert Tryz.prog 64 S_slices_DeleteFunc_Stairs__i_solutions_c1 :=
  filter_deep (kD := kStairs) (pre0 := textPre) solKeep (fun D => letI : RawD := ⟨D⟩; F_slices_DeleteFunc_Stairs__i_solutions_c1R) (fun D => letI : RawD := ⟨D⟩; h_slices_DeleteFunc_Stairs__i_solutions_c1R)
    (fun D ps c h1 h2 h3 => by
      letI : RawD := ⟨D⟩
      have hD : ∀ q, q ∈ ps → i_solutions_c1R q.1.1 q.1.2.1 q.1.2.2 c.1 = solKeep q.2 c := fun q hq => by
        unfold i_solutions_c1R
        show (D q.1).bind _ = _
        rw [h1 q hq]; rfl
      show slices_DeleteFunc_Stairs__i_solutions_c1R_n (ps.map (·.1)) c.1 = _
      unfold slices_DeleteFunc_Stairs__i_solutions_c1R_n
      have ha : (ps.map (·.1)).all (fun r => (i_solutions_c1R r.1 r.2.1 r.2.2 c.1).isSome) = true := by
        rw [List.all_eq_true]
        intro r hr
        obtain ⟨q, hq, rfl⟩ := List.mem_map.1 hr
        rw [hD q hq]; exact h2 q hq
      have hf : ((ps.map (·.1)).filter fun r => !(i_solutions_c1R r.1 r.2.1 r.2.2 c.1).getD false) = (ps.filter fun q => !(solKeep q.2 c).getD false).map (·.1) := by
        rw [List.filter_map]
        congr 1
        exact List.filter_congr fun q hq => by simp only [Function.comp]; rw [hD q hq]
      exact congr (congrArg (fun (b : Bool) (x : List (Int × Raw × Raw)) => bif b then some x else none) ha) hf)
/-! impl.solutions -/
noncomputable def c_i_solutions : FnCx := { env := env 6 [(65, S_i_hidden), (64, S_slices_DeleteFunc_Stairs__i_solutions_c1)] [], body := bodyOf Tryz.f39, res := [.tmp 2], ins := [.ro kSClue], out := [(kSStairs, true)], T := List ((Int × List Int × List Int)), fin := fun r => r.1.1, inj := fun t => ((t, ()), ((), ())), pts := [], fuel := 400, dr := noDr }
noncomputable def i_solutions (clues0 : List (Int × Int × Int)) : Option (List ((Int × List Int × List Int))) :=
  Option.bind i_hidden fun r => Option.bind (slices_DeleteFunc_Stairs__i_solutions_c1 r clues0) fun r => some r
theorem i_solutions_e (clues0 : List (Int × Int × Int)) : c_i_solutions.start c_i_solutions.L (clues0, ()) = i_solutions clues0 := by kernel_rfl
noncomputable def F_i_solutions : Ins c_i_solutions.ins → Option (List ((Int × List Int × List Int))) := fun x => i_solutions x.1
noncomputable def S_i_solutions : FSpec := mkF c_i_solutions.env.pre c_i_solutions.ins c_i_solutions.out c_i_solutions.inj F_i_solutions
theorem h_i_solutions : Cert Tryz.prog 39 S_i_solutions := FnCx.certF (c := c_i_solutions) F_i_solutions (tyOk _ _ _) (spOk ⟨h_i_hidden, fun _ _ h => h, ⟨h_slices_DeleteFunc_Stairs__i_solutions_c1, fun _ _ h => h, trivial⟩⟩) (fun _ _ _ _ _ hs => noDr_ok) Tryz.func39 rfl rfl Tryz.ntmps39 (by kernel_rfl) rfl rfl (fun _ => rfl) trivial (fun x => .inl ⟨c_i_solutions.start () x, fun _ => rfl⟩) (fun x t hb ht => by
  obtain ⟨clues0, _⟩ := x
  exact (i_solutions_e clues0).trans ht)
/-! impl.Solutions -/
noncomputable def c_i_Solutions : FnCx := { env := env 10 [(26, S_i_IsPuzzle), (39, S_i_solutions)] [], body := bodyOf Tryz.f5, res := [.tmp 2, .tmp 3], ins := [.ro kPuzzle], out := [(kSStairs, true), (kbool, true)], T := List ((Int × List Int × List Int)) × Bool, fin := fun r => (r.1.1, r.1.2.1), inj := fun t => ((t.1, t.2, ()), ((), ())), pts := [], fuel := 400, dr := noDr }
noncomputable def i_Solutions (p0_Clues : List (Int × Int × Int)) : Option (List ((Int × List Int × List Int)) × Bool) :=
  bif !i_IsPuzzle p0_Clues then some ([], false) else Option.bind (i_solutions p0_Clues) fun r => some (r, true)
theorem i_Solutions_e (p0_Clues : List (Int × Int × Int)) : c_i_Solutions.start c_i_Solutions.L (p0_Clues, ()) = i_Solutions p0_Clues := by kernel_rfl
noncomputable def F_i_Solutions : Ins c_i_Solutions.ins → Option (List ((Int × List Int × List Int)) × Bool) := fun x => i_Solutions x.1
noncomputable def S_i_Solutions : FSpec := mkF c_i_Solutions.env.pre c_i_Solutions.ins c_i_Solutions.out c_i_Solutions.inj F_i_Solutions
theorem h_i_Solutions : Cert Tryz.prog 5 S_i_Solutions := FnCx.certF (c := c_i_Solutions) F_i_Solutions (tyOk _ _ _) (spOk ⟨h_i_IsPuzzle, fun _ _ h => h, ⟨h_i_solutions, fun _ _ h => h, trivial⟩⟩) (fun _ _ _ _ _ hs => noDr_ok) Tryz.func5 rfl rfl Tryz.ntmps5 (by kernel_rfl) rfl rfl (fun _ => rfl) trivial (fun x => .inl ⟨c_i_Solutions.start () x, fun _ => rfl⟩) (fun x t hb ht => by
  obtain ⟨p0_Clues, _⟩ := x
  exact (i_Solutions_e p0_Clues).trans ht)
/-! spec.pzStrides -/
noncomputable def c_s_pzStrides : FnCx := { env := env 9 [] [], body := bodyOf Tryz.f69, res := [.tmp 0], ins := [], out := [(kSSint, true)], T := List (List Int), fin := fun r => r.1.1, inj := fun t => ((t, ()), ()), pts := [], fuel := 400, dr := noDr }
noncomputable def s_pzStrides  : (List (List Int)) :=
  [[1], [1, 2], [1, 2, 3], [1, 3], [2], [2, 3], [3]]
theorem s_pzStrides_e  : c_s_pzStrides.start c_s_pzStrides.L () = some (s_pzStrides) := by kernel_rfl
noncomputable def F_s_pzStrides : Ins c_s_pzStrides.ins → (List (List Int)) := fun x => s_pzStrides
noncomputable def S_s_pzStrides : FSpec := mkT c_s_pzStrides.env.pre c_s_pzStrides.ins c_s_pzStrides.out c_s_pzStrides.inj F_s_pzStrides
theorem h_s_pzStrides : Cert Tryz.prog 69 S_s_pzStrides := FnCx.certT (c := c_s_pzStrides) F_s_pzStrides (tyOk _ _ _) (spOk trivial) (fun _ _ _ _ _ hs => noDr_ok) Tryz.func69 rfl rfl Tryz.ntmps69 (by kernel_rfl) rfl rfl (fun _ => rfl) trivial (fun x => .inl ⟨c_s_pzStrides.start () x, fun _ => rfl⟩) (fun x hb => by
  obtain _ := x
  exact s_pzStrides_e )
/-! spec.l1Own -/
noncomputable def c_s_l1Own : FnCx := { env := env 6 [] [], body := bodyOf Tryz.f96, res := [.tmp 2], ins := [.ro kSint], out := [(kSint, true)], T := List Int, fin := fun r => r.1.1, inj := fun t => ((t, ()), ((), ())), pts := [], fuel := 400, dr := noDr }
noncomputable def s_l1Own (l0 : List Int) : Option (List Int) :=
  bif Nat.ble (0 + List.length l0) 4294967296 then some ([] ++ l0) else none
theorem s_l1Own_e (l0 : List Int) : c_s_l1Own.start c_s_l1Own.L (l0, ()) = s_l1Own l0 := by kernel_rfl
-- NICE opt
noncomputable def s_l1Own_n (s : List Int) : Option (List Int) := bif decide (s.length ≤ 4294967296) then some s else none
theorem s_l1Own_ok (s : List Int) (hb : BdI c_s_l1Own.ins (s, ())) (t : List Int) (ht : s_l1Own_n s = some t) : s_l1Own s = some t := by
  unfold s_l1Own_n at ht
  cases h : decide (s.length ≤ 4294967296)
  · rw [h] at ht; cases ht
  · rw [h] at ht; cases ht
    have h := of_decide_eq_true h
    unfold s_l1Own
    simp [ble_dec, h]
noncomputable def F_s_l1Own : Ins c_s_l1Own.ins → Option (List Int) := fun x => s_l1Own_n x.1
noncomputable def S_s_l1Own : FSpec := mkF c_s_l1Own.env.pre c_s_l1Own.ins c_s_l1Own.out c_s_l1Own.inj F_s_l1Own
theorem h_s_l1Own : Cert Tryz.prog 96 S_s_l1Own := FnCx.certF (c := c_s_l1Own) F_s_l1Own (tyOk _ _ _) (spOk trivial) (fun _ _ _ _ _ hs => noDr_ok) Tryz.func96 rfl rfl Tryz.ntmps96 (by kernel_rfl) rfl rfl (fun _ => rfl) trivial (fun x => .inl ⟨c_s_l1Own.start () x, fun _ => rfl⟩) (fun x t hb ht => by
  obtain ⟨l0, _⟩ := x
  exact (s_l1Own_e l0).trans (s_l1Own_ok l0 hb t ht))
/-! spec.pzStairs -/
noncomputable def c_s_pzStairs : FnCx := { env := env 18 [(96, S_s_l1Own)] [], body := bodyOf Tryz.f70, res := [.cell 6 32], ins := [.ro kint, .ro kSint, .ro kint], out := [(kStairs, true)], T := (Int × List Int × List Int), fin := fun r => r.1.1, inj := fun t => ((t, ()), ((), (), (), ())), pts := [], fuel := 400, dr := noDr }
noncomputable def s_pzStairs (steps0 : Int) (strides1 : List Int) (broken2 : Int) : Option ((Int × List Int × List Int)) :=
  Option.bind (s_l1Own_n strides1) fun r => bif decide (broken2 > 0) then some (steps0, r, [broken2]) else some (steps0, r, [])
theorem s_pzStairs_e (steps0 : Int) (strides1 : List Int) (broken2 : Int) : c_s_pzStairs.start c_s_pzStairs.L (steps0, strides1, broken2, ()) = s_pzStairs steps0 strides1 broken2 := by kernel_rfl
noncomputable def F_s_pzStairs : Ins c_s_pzStairs.ins → Option ((Int × List Int × List Int)) := fun x => s_pzStairs x.1 x.2.1 x.2.2.1
noncomputable def S_s_pzStairs : FSpec := mkF c_s_pzStairs.env.pre c_s_pzStairs.ins c_s_pzStairs.out c_s_pzStairs.inj F_s_pzStairs
theorem h_s_pzStairs : Cert Tryz.prog 70 S_s_pzStairs := FnCx.certF (c := c_s_pzStairs) F_s_pzStairs (tyOk _ _ _) (spOk ⟨h_s_l1Own, fun _ _ h => h, trivial⟩) (fun _ _ _ _ _ hs => noDr_ok) Tryz.func70 rfl rfl Tryz.ntmps70 (by kernel_rfl) rfl rfl (fun _ => rfl) trivial (fun x => .inl ⟨c_s_pzStairs.start () x, fun _ => rfl⟩) (fun x t hb ht => by
  obtain ⟨steps0, strides1, broken2, _⟩ := x
  exact (s_pzStairs_e steps0 strides1 broken2).trans ht)
/-! spec.pzAll -/
noncomputable def c_s_pzAll : FnCx := { env := env 51 [(69, S_s_pzStrides), (70, S_s_pzStairs), (71, S_s_pzFits)] [], body := bodyOf Tryz.f41, res := [.tmp 2], ins := [.ro kSClue], out := [(kSStairs, true)], T := List ((Int × List Int × List Int)), fin := fun r => r.1.1, inj := fun t => ((t, ()), ((), ())), pts := [([.inLoop [1, 1, 0, 1, 0, 0], .inBlock 0, .code [1, 1, 1]], Shape.mk [Bs.row kClue 51 false, Bs.row kStairs 32 true] [(0, Ss.one (Cs.sl 0)), (3, Ss.one (Cs.sl 1)), (4, Ss.one (Cs.sc kint))] [Ss.one (Cs.any)]), ([.inLoop [1, 1, 0, 1, 0, 0, 1, 0, 0, 1, 0, 0], .inBlock 2, .inBlock 1, .code [1, 1, 0, 1, 0, 0, 1, 1], .inLoop [1, 1, 0, 1, 0, 0], .inBlock 0, .code [1, 1, 1]], Shape.mk [Bs.row kClue 51 false, Bs.row kStairs 32 true, Bs.row kSint 30 false] [(0, Ss.one (Cs.sl 0)), (3, Ss.one (Cs.sl 1)), (4, Ss.one (Cs.sc kint)), (16, Ss.one (Cs.sl 2)), (17, Ss.one (Cs.sc kint)), (18, Ss.one (Cs.sc kint))] [Ss.one (Cs.any)]), ([.inLoop [1, 1, 0, 1, 0, 0, 1, 0, 0, 1, 0, 0, 1, 1, 0, 0, 1, 1, 0, 0], .inBlock 4, .inBlock 3, .code [1, 1, 0, 1, 0, 0, 1, 0, 0, 1, 0, 0, 1, 1, 1], .inLoop [1, 1, 0, 1, 0, 0, 1, 0, 0, 1, 0, 0], .inBlock 2, .inBlock 1, .code [1, 1, 0, 1, 0, 0, 1, 1], .inLoop [1, 1, 0, 1, 0, 0], .inBlock 0, .code [1, 1, 1]], Shape.mk [Bs.row kClue 51 false, Bs.row kStairs 32 true, Bs.row kint 3 false, Bs.row kSint 30 false] [(0, Ss.one (Cs.sl 0)), (3, Ss.one (Cs.sl 1)), (4, Ss.one (Cs.sc kint)), (6, Ss.one (Cs.sl 2)), (7, Ss.one (Cs.sc kint)), (16, Ss.one (Cs.sl 3)), (17, Ss.one (Cs.sc kint)), (18, Ss.one (Cs.sc kint))] [Ss.one (Cs.any)]), ([.inLoop [1, 1, 0, 1, 0, 0, 1, 0, 0, 1, 0, 0, 1, 1, 0, 0, 1, 1, 0, 0, 1, 0, 0, 1, 1, 0, 1, 0, 0], .inBlock 6, .code [1, 1, 0, 1, 0, 0, 1, 0, 0, 1, 0, 0, 1, 1, 0, 0, 1, 1, 0, 0, 1, 0, 0, 1, 1, 1], .inBlock 5, .code [1, 1, 0, 1, 0, 0, 1, 0, 0, 1, 0, 0, 1, 1, 0, 0, 1, 1, 0, 0, 1, 1], .inLoop [1, 1, 0, 1, 0, 0, 1, 0, 0, 1, 0, 0, 1, 1, 0, 0, 1, 1, 0, 0], .inBlock 4, .inBlock 3, .code [1, 1, 0, 1, 0, 0, 1, 0, 0, 1, 0, 0, 1, 1, 1], .inLoop [1, 1, 0, 1, 0, 0, 1, 0, 0, 1, 0, 0], .inBlock 2, .inBlock 1, .code [1, 1, 0, 1, 0, 0, 1, 1], .inLoop [1, 1, 0, 1, 0, 0], .inBlock 0, .code [1, 1, 1]], Shape.mk [Bs.row kClue 51 false, Bs.row kStairs 32 true, Bs.row kint 3 false, Bs.box 32 [Cs.sc kint, Cs.sl 5, Cs.sl 6], Bs.row kSint 30 false, Bs.row kint 3 true, Bs.row kint 3 true] [(0, Ss.one (Cs.sl 0)), (3, Ss.one (Cs.sl 1)), (4, Ss.one (Cs.sc kint)), (6, Ss.one (Cs.sl 2)), (7, Ss.one (Cs.sc kint)), (8, Ss.one (Cs.ptr 3 0)), (9, Ss.one (Cs.sc kbool)), (16, Ss.one (Cs.sl 4)), (17, Ss.one (Cs.sc kint)), (18, Ss.one (Cs.sc kint)), (31, Ss.one (Cs.sl 0)), (32, Ss.one (Cs.sc kint)), (33, Ss.one (Cs.sc kint))] [Ss.one (Cs.any)])], fuel := 400, dr := noDr }
noncomputable def s_pzAll_t1 (g1 : List (Int × (Int × Int)) → List ((Int × (List (Int) × List (Int)))) → Int → Option (List ((Int × List Int × List Int)))) (g2 : List (Int × (Int × Int)) → List ((Int × (List (Int) × List (Int)))) → List (List (Int)) → Int → Int → Int → Option (List ((Int × List Int × List Int)))) (g3 : List (Int × (Int × Int)) → List ((Int × (List (Int) × List (Int)))) → List (Int) → List (List (Int)) → Int → Int → Int → Int → Option (List ((Int × List Int × List Int)))) (g4 : List (Int × (Int × Int)) → List ((Int × (List (Int) × List (Int)))) → List (Int) → Int → List (List (Int)) → List (Int) → List (Int) → Int → Int → Bool → Int → Int → Int → Int → Option (List ((Int × List Int × List Int)))) (r0 : List (Int × (Int × Int))) (r1 : List ((Int × (List (Int) × List (Int))))) (steps4 : Int) : Option (List ((Int × List Int × List Int))) :=
  bif decide (steps4 ≤ 7) then g2 r0 r1 s_pzStrides steps4 (↑(List.length s_pzStrides) : Int) 0 else some r1
noncomputable def s_pzAll_t2 (g1 : List (Int × (Int × Int)) → List ((Int × (List (Int) × List (Int)))) → Int → Option (List ((Int × List Int × List Int)))) (g2 : List (Int × (Int × Int)) → List ((Int × (List (Int) × List (Int)))) → List (List (Int)) → Int → Int → Int → Option (List ((Int × List Int × List Int)))) (g3 : List (Int × (Int × Int)) → List ((Int × (List (Int) × List (Int)))) → List (Int) → List (List (Int)) → Int → Int → Int → Int → Option (List ((Int × List Int × List Int)))) (g4 : List (Int × (Int × Int)) → List ((Int × (List (Int) × List (Int)))) → List (Int) → Int → List (List (Int)) → List (Int) → List (Int) → Int → Int → Bool → Int → Int → Int → Int → Option (List ((Int × List Int × List Int)))) (r0 : List (Int × (Int × Int))) (r1 : List ((Int × (List (Int) × List (Int))))) (r2 : List (List (Int))) (steps4 : Int) (s17 : Int) (s18 : Int) : Option (List ((Int × List Int × List Int))) :=
  bif decide (s18 < s17) then
    bif decide (0 ≤ s18) then bif decide (s18 < (↑(List.length r2) : Int)) then g3 r0 r1 (rdk kSint r2 s18) r2 steps4 0 s17 s18 else none
    else none
  else g1 r0 r1 (IntKind.wrap IntKind.i64 (steps4 + 1))
noncomputable def s_pzAll_t3 (g1 : List (Int × (Int × Int)) → List ((Int × (List (Int) × List (Int)))) → Int → Option (List ((Int × List Int × List Int)))) (g2 : List (Int × (Int × Int)) → List ((Int × (List (Int) × List (Int)))) → List (List (Int)) → Int → Int → Int → Option (List ((Int × List Int × List Int)))) (g3 : List (Int × (Int × Int)) → List ((Int × (List (Int) × List (Int)))) → List (Int) → List (List (Int)) → Int → Int → Int → Int → Option (List ((Int × List Int × List Int)))) (g4 : List (Int × (Int × Int)) → List ((Int × (List (Int) × List (Int)))) → List (Int) → Int → List (List (Int)) → List (Int) → List (Int) → Int → Int → Bool → Int → Int → Int → Int → Option (List ((Int × List Int × List Int)))) (r0 : List (Int × (Int × Int))) (r1 : List ((Int × (List (Int) × List (Int))))) (r2 : List (Int)) (r3 : List (List (Int))) (steps4 : Int) (broken7 : Int) (s17 : Int) (s18 : Int) : Option (List ((Int × List Int × List Int))) :=
  bif decide (broken7 < steps4) then
    Option.bind (s_pzStairs steps4 r2 broken7) fun r =>
      g4 r0 r1 r2 (Prod.fst r) r3 (Prod.fst (Prod.snd r)) (Prod.snd (Prod.snd r)) steps4 broken7 true s17 s18 (↑(List.length r0) : Int) 0
  else g2 r0 r1 r3 steps4 s17 (IntKind.wrap IntKind.i64 (s18 + 1))
noncomputable def s_pzAll_t4 (g1 : List (Int × (Int × Int)) → List ((Int × (List (Int) × List (Int)))) → Int → Option (List ((Int × List Int × List Int)))) (g2 : List (Int × (Int × Int)) → List ((Int × (List (Int) × List (Int)))) → List (List (Int)) → Int → Int → Int → Option (List ((Int × List Int × List Int)))) (g3 : List (Int × (Int × Int)) → List ((Int × (List (Int) × List (Int)))) → List (Int) → List (List (Int)) → Int → Int → Int → Int → Option (List ((Int × List Int × List Int)))) (g4 : List (Int × (Int × Int)) → List ((Int × (List (Int) × List (Int)))) → List (Int) → Int → List (List (Int)) → List (Int) → List (Int) → Int → Int → Bool → Int → Int → Int → Int → Option (List ((Int × List Int × List Int)))) (r0 : List (Int × (Int × Int))) (r1 : List ((Int × (List (Int) × List (Int))))) (r2 : List (Int)) (b3_0 : Int) (r4 : List (List (Int))) (r5 : List (Int)) (r6 : List (Int)) (steps4 : Int) (broken7 : Int) (fits9 : Bool) (s17 : Int) (s18 : Int) (s32 : Int) (s33 : Int) : Option (List ((Int × List Int × List Int))) :=
  bif decide (s33 < s32) then
    bif decide (0 ≤ s33) then
      bif decide (s33 < (↑(List.length r0) : Int)) then
        bif fits9 then
          Option.bind
            (s_pzFits (Prod.fst (rdk kClue r0 s33))
              (Prod.fst (Prod.snd (rdk kClue r0 s33)))
              (Prod.snd (Prod.snd (rdk kClue r0 s33))) b3_0 r5 r6)
            fun r => g4 r0 r1 r2 b3_0 r4 r5 r6 steps4 broken7 r s17 s18 s32 (IntKind.wrap IntKind.i64 (s33 + 1))
        else g4 r0 r1 r2 b3_0 r4 r5 r6 steps4 broken7 false s17 s18 s32 (IntKind.wrap IntKind.i64 (s33 + 1))
      else none
    else none
  else
    bif fits9 then
      bif Nat.ble (List.length r1 + 1) 4294967296 then g3 r0 (r1 ++ [(b3_0, r5, r6)]) r2 r4 steps4 (IntKind.wrap IntKind.i64 (broken7 + 1)) s17 s18 else none
    else g3 r0 r1 r2 r4 steps4 (IntKind.wrap IntKind.i64 (broken7 + 1)) s17 s18
noncomputable def s_pzAll_t0 (g1 : List (Int × (Int × Int)) → List ((Int × (List (Int) × List (Int)))) → Int → Option (List ((Int × List Int × List Int)))) (g2 : List (Int × (Int × Int)) → List ((Int × (List (Int) × List (Int)))) → List (List (Int)) → Int → Int → Int → Option (List ((Int × List Int × List Int)))) (g3 : List (Int × (Int × Int)) → List ((Int × (List (Int) × List (Int)))) → List (Int) → List (List (Int)) → Int → Int → Int → Int → Option (List ((Int × List Int × List Int)))) (g4 : List (Int × (Int × Int)) → List ((Int × (List (Int) × List (Int)))) → List (Int) → Int → List (List (Int)) → List (Int) → List (Int) → Int → Int → Bool → Int → Int → Int → Int → Option (List ((Int × List Int × List Int)))) (clues0 : List (Int × Int × Int)) : Option (List ((Int × List Int × List Int))) :=
  g1 clues0 [] 1
theorem s_pzAll_ts : Tails c_s_pzAll.pts c_s_pzAll.round :=
  ⟨fun s => by
    obtain ⟨⟨r0, r1, _⟩, ⟨_, _, steps4, _⟩, ⟨_, _⟩⟩ := s
    refine Tail.eq (Y := fun g => s_pzAll_t1 (fun r0 r1 steps4 => g.1 ((r0, r1, ()), ((), (), steps4, ()), ((), ()))) (fun r0 r1 r2 steps4 s17 s18 => g.2.1 ((r0, r1, r2, ()), ((), (), steps4, (), s17, s18, ()), ((), ()))) (fun r0 r1 r2 r3 steps4 broken7 s17 s18 => g.2.2.1 ((r0, r1, r2, r3, ()), ((), (), steps4, (), broken7, (), s17, s18, ()), ((), ()))) (fun r0 r1 r2 b3_0 r4 r5 r6 steps4 broken7 fits9 s17 s18 s32 s33 => g.2.2.2.1 ((r0, r1, r2, (b3_0, (), (), ()), r4, r5, r6, ()), ((), (), steps4, (), broken7, (), fits9, (), s17, s18, (), s32, s33, ()), ((), ()))) r0 r1 steps4) ?_ (fun g => by kernel_rfl)
    simp only [s_pzAll_t1]; repeat (first | exact Tail.const _ | exact Tail.here _ | exact Tail.there (Tail.here _) | exact Tail.there (Tail.there (Tail.here _)) | exact Tail.there (Tail.there (Tail.there (Tail.here _))) | exact Tail.there (Tail.there (Tail.there (Tail.there (Tail.here _)))) | exact Tail.there (Tail.there (Tail.there (Tail.there (Tail.there (Tail.here _))))) | apply Tail.cond | (apply Tail.bind; intro _)),
  fun s => by
    obtain ⟨⟨r0, r1, r2, _⟩, ⟨_, _, steps4, _, s17, s18, _⟩, ⟨_, _⟩⟩ := s
    refine Tail.eq (Y := fun g => s_pzAll_t2 (fun r0 r1 steps4 => g.1 ((r0, r1, ()), ((), (), steps4, ()), ((), ()))) (fun r0 r1 r2 steps4 s17 s18 => g.2.1 ((r0, r1, r2, ()), ((), (), steps4, (), s17, s18, ()), ((), ()))) (fun r0 r1 r2 r3 steps4 broken7 s17 s18 => g.2.2.1 ((r0, r1, r2, r3, ()), ((), (), steps4, (), broken7, (), s17, s18, ()), ((), ()))) (fun r0 r1 r2 b3_0 r4 r5 r6 steps4 broken7 fits9 s17 s18 s32 s33 => g.2.2.2.1 ((r0, r1, r2, (b3_0, (), (), ()), r4, r5, r6, ()), ((), (), steps4, (), broken7, (), fits9, (), s17, s18, (), s32, s33, ()), ((), ()))) r0 r1 r2 steps4 s17 s18) ?_ (fun g => by kernel_rfl)
    simp only [s_pzAll_t2]; repeat (first | exact Tail.const _ | exact Tail.here _ | exact Tail.there (Tail.here _) | exact Tail.there (Tail.there (Tail.here _)) | exact Tail.there (Tail.there (Tail.there (Tail.here _))) | exact Tail.there (Tail.there (Tail.there (Tail.there (Tail.here _)))) | exact Tail.there (Tail.there (Tail.there (Tail.there (Tail.there (Tail.here _))))) | apply Tail.cond | (apply Tail.bind; intro _)),
  fun s => by
    obtain ⟨⟨r0, r1, r2, r3, _⟩, ⟨_, _, steps4, _, broken7, _, s17, s18, _⟩, ⟨_, _⟩⟩ := s
    refine Tail.eq (Y := fun g => s_pzAll_t3 (fun r0 r1 steps4 => g.1 ((r0, r1, ()), ((), (), steps4, ()), ((), ()))) (fun r0 r1 r2 steps4 s17 s18 => g.2.1 ((r0, r1, r2, ()), ((), (), steps4, (), s17, s18, ()), ((), ()))) (fun r0 r1 r2 r3 steps4 broken7 s17 s18 => g.2.2.1 ((r0, r1, r2, r3, ()), ((), (), steps4, (), broken7, (), s17, s18, ()), ((), ()))) (fun r0 r1 r2 b3_0 r4 r5 r6 steps4 broken7 fits9 s17 s18 s32 s33 => g.2.2.2.1 ((r0, r1, r2, (b3_0, (), (), ()), r4, r5, r6, ()), ((), (), steps4, (), broken7, (), fits9, (), s17, s18, (), s32, s33, ()), ((), ()))) r0 r1 r2 r3 steps4 broken7 s17 s18) ?_ (fun g => by kernel_rfl)
    simp only [s_pzAll_t3]; repeat (first | exact Tail.const _ | exact Tail.here _ | exact Tail.there (Tail.here _) | exact Tail.there (Tail.there (Tail.here _)) | exact Tail.there (Tail.there (Tail.there (Tail.here _))) | exact Tail.there (Tail.there (Tail.there (Tail.there (Tail.here _)))) | exact Tail.there (Tail.there (Tail.there (Tail.there (Tail.there (Tail.here _))))) | apply Tail.cond | (apply Tail.bind; intro _)),
  fun s => by
    obtain ⟨⟨r0, r1, r2, ⟨b3_0, _, _, _⟩, r4, r5, r6, _⟩, ⟨_, _, steps4, _, broken7, _, fits9, _, s17, s18, _, s32, s33, _⟩, ⟨_, _⟩⟩ := s
    refine Tail.eq (Y := fun g => s_pzAll_t4 (fun r0 r1 steps4 => g.1 ((r0, r1, ()), ((), (), steps4, ()), ((), ()))) (fun r0 r1 r2 steps4 s17 s18 => g.2.1 ((r0, r1, r2, ()), ((), (), steps4, (), s17, s18, ()), ((), ()))) (fun r0 r1 r2 r3 steps4 broken7 s17 s18 => g.2.2.1 ((r0, r1, r2, r3, ()), ((), (), steps4, (), broken7, (), s17, s18, ()), ((), ()))) (fun r0 r1 r2 b3_0 r4 r5 r6 steps4 broken7 fits9 s17 s18 s32 s33 => g.2.2.2.1 ((r0, r1, r2, (b3_0, (), (), ()), r4, r5, r6, ()), ((), (), steps4, (), broken7, (), fits9, (), s17, s18, (), s32, s33, ()), ((), ()))) r0 r1 r2 b3_0 r4 r5 r6 steps4 broken7 fits9 s17 s18 s32 s33) ?_ (fun g => by kernel_rfl)
    simp only [s_pzAll_t4]; repeat (first | exact Tail.const _ | exact Tail.here _ | exact Tail.there (Tail.here _) | exact Tail.there (Tail.there (Tail.here _)) | exact Tail.there (Tail.there (Tail.there (Tail.here _))) | exact Tail.there (Tail.there (Tail.there (Tail.there (Tail.here _)))) | exact Tail.there (Tail.there (Tail.there (Tail.there (Tail.there (Tail.here _))))) | apply Tail.cond | (apply Tail.bind; intro _)), trivial⟩
theorem s_pzAll_hs : ∀ x, Tail c_s_pzAll.pts (fun g => c_s_pzAll.start g x) := fun x => by
    obtain ⟨clues0, _⟩ := x
    refine Tail.eq (Y := fun g => s_pzAll_t0 (fun r0 r1 steps4 => g.1 ((r0, r1, ()), ((), (), steps4, ()), ((), ()))) (fun r0 r1 r2 steps4 s17 s18 => g.2.1 ((r0, r1, r2, ()), ((), (), steps4, (), s17, s18, ()), ((), ()))) (fun r0 r1 r2 r3 steps4 broken7 s17 s18 => g.2.2.1 ((r0, r1, r2, r3, ()), ((), (), steps4, (), broken7, (), s17, s18, ()), ((), ()))) (fun r0 r1 r2 b3_0 r4 r5 r6 steps4 broken7 fits9 s17 s18 s32 s33 => g.2.2.2.1 ((r0, r1, r2, (b3_0, (), (), ()), r4, r5, r6, ()), ((), (), steps4, (), broken7, (), fits9, (), s17, s18, (), s32, s33, ()), ((), ()))) clues0) ?_ (fun g => by kernel_rfl)
    simp only [s_pzAll_t0]; repeat (first | exact Tail.const _ | exact Tail.here _ | exact Tail.there (Tail.here _) | exact Tail.there (Tail.there (Tail.here _)) | exact Tail.there (Tail.there (Tail.there (Tail.here _))) | exact Tail.there (Tail.there (Tail.there (Tail.there (Tail.here _)))) | exact Tail.there (Tail.there (Tail.there (Tail.there (Tail.there (Tail.here _))))) | apply Tail.cond | (apply Tail.bind; intro _))
noncomputable def s_pzAll_L1 (r0 : List (Int × (Int × Int))) (r1 : List ((Int × (List (Int) × List (Int))))) (steps4 : Int) : Option (List ((Int × List Int × List Int))) := c_s_pzAll.L.1 ((r0, r1, ()), ((), (), steps4, ()), ((), ()))
noncomputable def s_pzAll_L2 (r0 : List (Int × (Int × Int))) (r1 : List ((Int × (List (Int) × List (Int))))) (r2 : List (List (Int))) (steps4 : Int) (s17 : Int) (s18 : Int) : Option (List ((Int × List Int × List Int))) := c_s_pzAll.L.2.1 ((r0, r1, r2, ()), ((), (), steps4, (), s17, s18, ()), ((), ()))
noncomputable def s_pzAll_L3 (r0 : List (Int × (Int × Int))) (r1 : List ((Int × (List (Int) × List (Int))))) (r2 : List (Int)) (r3 : List (List (Int))) (steps4 : Int) (broken7 : Int) (s17 : Int) (s18 : Int) : Option (List ((Int × List Int × List Int))) := c_s_pzAll.L.2.2.1 ((r0, r1, r2, r3, ()), ((), (), steps4, (), broken7, (), s17, s18, ()), ((), ()))
noncomputable def s_pzAll_L4 (r0 : List (Int × (Int × Int))) (r1 : List ((Int × (List (Int) × List (Int))))) (r2 : List (Int)) (b3_0 : Int) (r4 : List (List (Int))) (r5 : List (Int)) (r6 : List (Int)) (steps4 : Int) (broken7 : Int) (fits9 : Bool) (s17 : Int) (s18 : Int) (s32 : Int) (s33 : Int) : Option (List ((Int × List Int × List Int))) := c_s_pzAll.L.2.2.2.1 ((r0, r1, r2, (b3_0, (), (), ()), r4, r5, r6, ()), ((), (), steps4, (), broken7, (), fits9, (), s17, s18, (), s32, s33, ()), ((), ()))
theorem s_pzAll_u1 (r0 : List (Int × (Int × Int))) (r1 : List ((Int × (List (Int) × List (Int))))) (steps4 : Int) : s_pzAll_L1 r0 r1 steps4 = s_pzAll_t1 s_pzAll_L1 s_pzAll_L2 s_pzAll_L3 s_pzAll_L4 r0 r1 steps4 :=
  (congrArg (fun g => g.1 ((r0, r1, ()), ((), (), steps4, ()), ((), ()))) (FnCx.L_eq s_pzAll_ts)).trans (by kernel_rfl)
theorem s_pzAll_u2 (r0 : List (Int × (Int × Int))) (r1 : List ((Int × (List (Int) × List (Int))))) (r2 : List (List (Int))) (steps4 : Int) (s17 : Int) (s18 : Int) : s_pzAll_L2 r0 r1 r2 steps4 s17 s18 = s_pzAll_t2 s_pzAll_L1 s_pzAll_L2 s_pzAll_L3 s_pzAll_L4 r0 r1 r2 steps4 s17 s18 :=
  (congrArg (fun g => g.2.1 ((r0, r1, r2, ()), ((), (), steps4, (), s17, s18, ()), ((), ()))) (FnCx.L_eq s_pzAll_ts)).trans (by kernel_rfl)
theorem s_pzAll_u3 (r0 : List (Int × (Int × Int))) (r1 : List ((Int × (List (Int) × List (Int))))) (r2 : List (Int)) (r3 : List (List (Int))) (steps4 : Int) (broken7 : Int) (s17 : Int) (s18 : Int) : s_pzAll_L3 r0 r1 r2 r3 steps4 broken7 s17 s18 = s_pzAll_t3 s_pzAll_L1 s_pzAll_L2 s_pzAll_L3 s_pzAll_L4 r0 r1 r2 r3 steps4 broken7 s17 s18 :=
  (congrArg (fun g => g.2.2.1 ((r0, r1, r2, r3, ()), ((), (), steps4, (), broken7, (), s17, s18, ()), ((), ()))) (FnCx.L_eq s_pzAll_ts)).trans (by kernel_rfl)
theorem s_pzAll_u4 (r0 : List (Int × (Int × Int))) (r1 : List ((Int × (List (Int) × List (Int))))) (r2 : List (Int)) (b3_0 : Int) (r4 : List (List (Int))) (r5 : List (Int)) (r6 : List (Int)) (steps4 : Int) (broken7 : Int) (fits9 : Bool) (s17 : Int) (s18 : Int) (s32 : Int) (s33 : Int) : s_pzAll_L4 r0 r1 r2 b3_0 r4 r5 r6 steps4 broken7 fits9 s17 s18 s32 s33 = s_pzAll_t4 s_pzAll_L1 s_pzAll_L2 s_pzAll_L3 s_pzAll_L4 r0 r1 r2 b3_0 r4 r5 r6 steps4 broken7 fits9 s17 s18 s32 s33 :=
  (congrArg (fun g => g.2.2.2.1 ((r0, r1, r2, (b3_0, (), (), ()), r4, r5, r6, ()), ((), (), steps4, (), broken7, (), fits9, (), s17, s18, (), s32, s33, ()), ((), ()))) (FnCx.L_eq s_pzAll_ts)).trans (by kernel_rfl)
noncomputable def s_pzAll (clues0 : List (Int × Int × Int)) : Option (List ((Int × List Int × List Int))) := s_pzAll_t0 s_pzAll_L1 s_pzAll_L2 s_pzAll_L3 s_pzAll_L4 clues0
theorem s_pzAll_e (clues0 : List (Int × Int × Int)) : c_s_pzAll.start c_s_pzAll.L (clues0, ()) = s_pzAll clues0 := by kernel_rfl
noncomputable def F_s_pzAll : Ins c_s_pzAll.ins → Option (List ((Int × List Int × List Int))) := fun x => s_pzAll x.1
noncomputable def S_s_pzAll : FSpec := mkF c_s_pzAll.env.pre c_s_pzAll.ins c_s_pzAll.out c_s_pzAll.inj F_s_pzAll
theorem h_s_pzAll : Cert Tryz.prog 41 S_s_pzAll := FnCx.certF (c := c_s_pzAll) F_s_pzAll (tyOk _ _ _) (spOk ⟨h_s_pzStrides, fun _ _ h => h, ⟨h_s_pzStairs, fun _ _ h => h, ⟨h_s_pzFits, fun _ _ h => h, trivial⟩⟩⟩) (fun _ _ _ _ _ hs => noDr_ok) Tryz.func41 rfl rfl Tryz.ntmps41 (by kernel_rfl) rfl rfl (fun _ => rfl) s_pzAll_ts s_pzAll_hs (fun x t hb ht => by
  obtain ⟨clues0, _⟩ := x
  exact (s_pzAll_e clues0).trans ht)
/-! spec.Solutions -/
noncomputable def c_s_Solutions : FnCx := { env := env 10 [(40, S_s_pzGood), (41, S_s_pzAll)] [], body := bodyOf Tryz.f6, res := [.tmp 2, .tmp 3], ins := [.ro kPuzzle], out := [(kSStairs, true), (kbool, true)], T := List ((Int × List Int × List Int)) × Bool, fin := fun r => (r.1.1, r.1.2.1), inj := fun t => ((t.1, t.2, ()), ((), ())), pts := [], fuel := 400, dr := noDr }
noncomputable def s_Solutions (p0_Clues : List (Int × Int × Int)) : Option (List ((Int × List Int × List Int)) × Bool) :=
  bif !s_pzGood_n p0_Clues then some ([], false) else Option.bind (s_pzAll p0_Clues) fun r => some (r, true)
theorem s_Solutions_e (p0_Clues : List (Int × Int × Int)) : c_s_Solutions.start c_s_Solutions.L (p0_Clues, ()) = s_Solutions p0_Clues := by kernel_rfl
noncomputable def F_s_Solutions : Ins c_s_Solutions.ins → Option (List ((Int × List Int × List Int)) × Bool) := fun x => s_Solutions x.1
noncomputable def S_s_Solutions : FSpec := mkF c_s_Solutions.env.pre c_s_Solutions.ins c_s_Solutions.out c_s_Solutions.inj F_s_Solutions
theorem h_s_Solutions : Cert Tryz.prog 6 S_s_Solutions := FnCx.certF (c := c_s_Solutions) F_s_Solutions (tyOk _ _ _) (spOk ⟨h_s_pzGood, fun _ _ h => h, ⟨h_s_pzAll, fun _ _ h => h, trivial⟩⟩) (fun _ _ _ _ _ hs => noDr_ok) Tryz.func6 rfl rfl Tryz.ntmps6 (by kernel_rfl) rfl rfl (fun _ => rfl) trivial (fun x => .inl ⟨c_s_Solutions.start () x, fun _ => rfl⟩) (fun x t hb ht => by
  obtain ⟨p0_Clues, _⟩ := x
  exact (s_Solutions_e p0_Clues).trans ht)
end Go.Proofs.YtoldoplpnkojdaaGreatDoor.V
