/- Functions of the program, as plain functions. No condition. -/
import Derived.Test.YtoldoplpnkojdaaGreatDoorTyK
set_option linter.unusedVariables false
set_option linter.unusedSimpArgs false
set_option maxRecDepth 100000
namespace Go.Proofs.YtoldoplpnkojdaaGreatDoor.V
open Go Go.Ev Go.Proofs
/-! spec.l1In -/
noncomputable def c_s_l1In : FnCx := { env := env 15 [] [], body := bodyOf Tryz.f95, res := [.tmp 6], ins := [.ro kint, .ro kint, .ro kint], out := [(kbool, true)], T := Bool, fin := fun r => r.1.1, inj := fun t => ((t, ()), ((), (), (), ())), pts := [], fuel := 400, dr := noDr }
noncomputable def s_l1In (n0 : Int) (lo1 : Int) (hi2 : Int) : Bool :=
  bif decide (n0 ≥ lo1) then decide (n0 ≤ hi2) else false
theorem s_l1In_e (n0 : Int) (lo1 : Int) (hi2 : Int) : c_s_l1In.start c_s_l1In.L (n0, lo1, hi2, ()) = some (s_l1In n0 lo1 hi2) := by
  refine Eq.trans (b := (bif decide (n0 ≥ lo1) then some (decide (n0 ≤ hi2)) else some false : Option Bool)) (by kernel_rfl) ?_
  unfold s_l1In
  repeat (first | rfl | apply condS)
noncomputable def F_s_l1In : Ins c_s_l1In.ins → Bool := fun x => s_l1In x.1 x.2.1 x.2.2.1
noncomputable def S_s_l1In : FSpec := mkT c_s_l1In.env.pre c_s_l1In.ins c_s_l1In.out c_s_l1In.inj F_s_l1In
theorem h_s_l1In : Cert Tryz.prog 95 S_s_l1In := FnCx.certT (c := c_s_l1In) F_s_l1In (tyOk _ _ _) (spOk trivial) (fun _ _ _ _ _ hs => noDr_ok) Tryz.func95 rfl rfl Tryz.ntmps95 (by kernel_rfl) rfl rfl (fun _ => rfl) trivial (fun x => .inl ⟨c_s_l1In.start () x, fun _ => rfl⟩) (fun x hb => by
  obtain ⟨n0, lo1, hi2, _⟩ := x
  exact s_l1In_e n0 lo1 hi2)
/-! spec.pzClue -/
noncomputable def c_s_pzClue : FnCx := { env := env 37 [(95, S_s_l1In)] [], body := bodyOf Tryz.f68, res := [.tmp 2], ins := [.ro kClue], out := [(kbool, true)], T := Bool, fin := fun r => r.1.1, inj := fun t => ((t, ()), ((), ())), pts := [], fuel := 400, dr := noDr }
noncomputable def s_pzClue (c0_Kind : Int) (c0_A : Int) (c0_B : Int) : Bool :=
  bif !s_l1In c0_B 0 60 then false
  else
    bif c0_Kind == 0 then c0_A == 0
    else
      bif c0_Kind == 1 then c0_A == 0
      else
        bif c0_Kind == 4 then c0_A == 0
        else
          bif c0_Kind == 5 then c0_A == 0
          else
            bif c0_Kind == 2 then bif s_l1In c0_A 1 3 then decide (c0_B < 2) else false
            else bif c0_Kind == 3 then bif s_l1In c0_A 1 7 then decide (c0_B < 2) else false else false
theorem s_pzClue_e (c0_Kind : Int) (c0_A : Int) (c0_B : Int) : c_s_pzClue.start c_s_pzClue.L ((c0_Kind, c0_A, c0_B), ()) = some (s_pzClue c0_Kind c0_A c0_B) := by
  refine Eq.trans (b := (bif !s_l1In c0_B 0 60 then some false else bif c0_Kind == 0 then some (c0_A == 0) else bif c0_Kind == 1 then some (c0_A == 0) else bif c0_Kind == 4 then some (c0_A == 0) else bif c0_Kind == 5 then some (c0_A == 0) else bif c0_Kind == 2 then bif s_l1In c0_A 1 3 then some (decide (c0_B < 2)) else some false else bif c0_Kind == 3 then bif s_l1In c0_A 1 7 then some (decide (c0_B < 2)) else some false else some false : Option Bool)) (by kernel_rfl) ?_
  unfold s_pzClue
  repeat (first | rfl | apply condS)
noncomputable def F_s_pzClue : Ins c_s_pzClue.ins → Bool := fun x => s_pzClue x.1.1 x.1.2.1 x.1.2.2
noncomputable def S_s_pzClue : FSpec := mkT c_s_pzClue.env.pre c_s_pzClue.ins c_s_pzClue.out c_s_pzClue.inj F_s_pzClue
theorem h_s_pzClue : Cert Tryz.prog 68 S_s_pzClue := FnCx.certT (c := c_s_pzClue) F_s_pzClue (tyOk _ _ _) (spOk ⟨h_s_l1In, fun _ _ h => h, trivial⟩) (fun _ _ _ _ _ hs => noDr_ok) Tryz.func68 rfl rfl Tryz.ntmps68 (by kernel_rfl) rfl rfl (fun _ => rfl) trivial (fun x => .inl ⟨c_s_pzClue.start () x, fun _ => rfl⟩) (fun x hb => by
  obtain ⟨⟨c0_Kind, c0_A, c0_B⟩, _⟩ := x
  exact s_pzClue_e c0_Kind c0_A c0_B)
/-! spec.pzGood -/
noncomputable def c_s_pzGood : FnCx := { env := env 20 [(68, S_s_pzClue)] [], body := bodyOf Tryz.f40, res := [.tmp 2], ins := [.ro kPuzzle], out := [(kbool, true)], T := Bool, fin := fun r => r.1.1, inj := fun t => ((t, ()), ((), ())), pts := [([.inLoop [1, 1, 0, 1, 0, 0], .inBlock 0, .code [1, 1, 1]], Shape.mk [Bs.row kClue 51 false] [(10, Ss.one (Cs.sl 0)), (11, Ss.one (Cs.sc kint)), (12, Ss.one (Cs.sc kint))] [Ss.one (Cs.any)])], fuel := 400, dr := noDr }
noncomputable def s_pzGood_t1 (g1 : List (Int × (Int × Int)) → Int → Int → Option (Bool)) (r0 : List (Int × (Int × Int))) (s11 : Int) (s12 : Int) : Option Bool :=
  bif decide (s12 < s11) then
    bif decide (0 ≤ s12) then
      bif decide (s12 < (↑(List.length r0) : Int)) then
        bif
            !s_pzClue (Prod.fst (rdk kClue r0 s12))
                (Prod.fst (Prod.snd (rdk kClue r0 s12)))
                (Prod.snd (Prod.snd (rdk kClue r0 s12))) then
          some false
        else g1 r0 s11 (IntKind.wrap IntKind.i64 (s12 + 1))
      else none
    else none
  else some true
noncomputable def s_pzGood_t0 (g1 : List (Int × (Int × Int)) → Int → Int → Option (Bool)) (p0_Clues : List (Int × Int × Int)) : Option Bool :=
  bif decide ((↑(List.length p0_Clues) : Int) > 6) then some false else g1 p0_Clues (↑(List.length p0_Clues) : Int) 0
theorem s_pzGood_ts : Tails c_s_pzGood.pts c_s_pzGood.round :=
  ⟨fun s => by
    obtain ⟨⟨r0, _⟩, ⟨_, s11, s12, _⟩, ⟨_, _⟩⟩ := s
    refine Tail.eq (Y := fun g => s_pzGood_t1 (fun r0 s11 s12 => g.1 ((r0, ()), ((), s11, s12, ()), ((), ()))) r0 s11 s12) ?_ (fun g => by kernel_rfl)
    simp only [s_pzGood_t1]; repeat (first | exact Tail.const _ | exact Tail.here _ | exact Tail.there (Tail.here _) | exact Tail.there (Tail.there (Tail.here _)) | exact Tail.there (Tail.there (Tail.there (Tail.here _))) | exact Tail.there (Tail.there (Tail.there (Tail.there (Tail.here _)))) | exact Tail.there (Tail.there (Tail.there (Tail.there (Tail.there (Tail.here _))))) | apply Tail.cond | (apply Tail.bind; intro _)), trivial⟩
theorem s_pzGood_hs : ∀ x, Tail c_s_pzGood.pts (fun g => c_s_pzGood.start g x) := fun x => by
    obtain ⟨p0_Clues, _⟩ := x
    refine Tail.eq (Y := fun g => s_pzGood_t0 (fun r0 s11 s12 => g.1 ((r0, ()), ((), s11, s12, ()), ((), ()))) p0_Clues) ?_ (fun g => by kernel_rfl)
    simp only [s_pzGood_t0]; repeat (first | exact Tail.const _ | exact Tail.here _ | exact Tail.there (Tail.here _) | exact Tail.there (Tail.there (Tail.here _)) | exact Tail.there (Tail.there (Tail.there (Tail.here _))) | exact Tail.there (Tail.there (Tail.there (Tail.there (Tail.here _)))) | exact Tail.there (Tail.there (Tail.there (Tail.there (Tail.there (Tail.here _))))) | apply Tail.cond | (apply Tail.bind; intro _))
noncomputable def s_pzGood_L1 (r0 : List (Int × (Int × Int))) (s11 : Int) (s12 : Int) : Option Bool := c_s_pzGood.L.1 ((r0, ()), ((), s11, s12, ()), ((), ()))
theorem s_pzGood_u1 (r0 : List (Int × (Int × Int))) (s11 : Int) (s12 : Int) : s_pzGood_L1 r0 s11 s12 = s_pzGood_t1 s_pzGood_L1 r0 s11 s12 :=
  (congrArg (fun g => g.1 ((r0, ()), ((), s11, s12, ()), ((), ()))) (FnCx.L_eq s_pzGood_ts)).trans (by kernel_rfl)
noncomputable def s_pzGood (p0_Clues : List (Int × Int × Int)) : Option Bool := s_pzGood_t0 s_pzGood_L1 p0_Clues
theorem s_pzGood_e (p0_Clues : List (Int × Int × Int)) : c_s_pzGood.start c_s_pzGood.L (p0_Clues, ()) = s_pzGood p0_Clues := by kernel_rfl
-- NICE tot
noncomputable def s_pzGood_n (l : List (Int × Int × Int)) : Bool := bif decide ((l.length : Int) > 6) then false else bif l.any (fun c => !s_pzClue c.1 c.2.1 c.2.2) then false else true
theorem s_pzGood_ok (l : List (Int × Int × Int)) (hb : BdI c_s_pzGood.ins (l, ())) : s_pzGood l = some (s_pzGood_n l) := by
  have e := loop_any (L := fun i => s_pzGood_L1 l l.length (i : Int)) (l := l) (p := fun c => !s_pzClue c.1 c.2.1 c.2.2) (a := false) (b := true)
    (fun i h => by simp only [s_pzGood_u1 l l.length i, s_pzGood_t1, rdk_get (k := kClue) h, wrapS h hb.1.1]; simp [h]) (by simp [s_pzGood_u1 l l.length l.length, s_pzGood_t1])
  unfold s_pzGood s_pzGood_t0 s_pzGood_n
  cases decide ((l.length : Int) > 6)
  · exact e
  · rfl
theorem s_pzGood_len {p : List (Int × Int × Int)} (h : s_pzGood_n p = true) : p.length ≤ 6 := by
  unfold s_pzGood_n at h
  cases hl : decide ((p.length : Int) > 6)
  · have := of_decide_eq_false hl; omega
  · rw [hl] at h; cases h
noncomputable def F_s_pzGood : Ins c_s_pzGood.ins → Bool := fun x => s_pzGood_n x.1
noncomputable def S_s_pzGood : FSpec := mkT c_s_pzGood.env.pre c_s_pzGood.ins c_s_pzGood.out c_s_pzGood.inj F_s_pzGood
theorem h_s_pzGood : Cert Tryz.prog 40 S_s_pzGood := FnCx.certT (c := c_s_pzGood) F_s_pzGood (tyOk _ _ _) (spOk ⟨h_s_pzClue, fun _ _ h => h, trivial⟩) (fun _ _ _ _ _ hs => noDr_ok) Tryz.func40 rfl rfl Tryz.ntmps40 (by kernel_rfl) rfl rfl (fun _ => rfl) s_pzGood_ts s_pzGood_hs (fun x hb => by
  obtain ⟨p0_Clues, _⟩ := x
  exact (s_pzGood_e p0_Clues).trans (s_pzGood_ok p0_Clues hb))
/-! impl.within -/
noncomputable def c_i_within : FnCx := { env := env 15 [] [], body := bodyOf Tryz.f53, res := [.tmp 6], ins := [.ro kint, .ro kint, .ro kint], out := [(kbool, true)], T := Bool, fin := fun r => r.1.1, inj := fun t => ((t, ()), ((), (), (), ())), pts := [], fuel := 400, dr := noDr }
noncomputable def i_within (n0 : Int) (low1 : Int) (high2 : Int) : Bool :=
  bif decide (low1 ≤ n0) then decide (n0 ≤ high2) else false
theorem i_within_e (n0 : Int) (low1 : Int) (high2 : Int) : c_i_within.start c_i_within.L (n0, low1, high2, ()) = some (i_within n0 low1 high2) := by
  refine Eq.trans (b := (bif decide (low1 ≤ n0) then some (decide (n0 ≤ high2)) else some false : Option Bool)) (by kernel_rfl) ?_
  unfold i_within
  repeat (first | rfl | apply condS)
noncomputable def F_i_within : Ins c_i_within.ins → Bool := fun x => i_within x.1 x.2.1 x.2.2.1
noncomputable def S_i_within : FSpec := mkT c_i_within.env.pre c_i_within.ins c_i_within.out c_i_within.inj F_i_within
theorem h_i_within : Cert Tryz.prog 53 S_i_within := FnCx.certT (c := c_i_within) F_i_within (tyOk _ _ _) (spOk trivial) (fun _ _ _ _ _ hs => noDr_ok) Tryz.func53 rfl rfl Tryz.ntmps53 (by kernel_rfl) rfl rfl (fun _ => rfl) trivial (fun x => .inl ⟨c_i_within.start () x, fun _ => rfl⟩) (fun x hb => by
  obtain ⟨n0, low1, high2, _⟩ := x
  exact i_within_e n0 low1 high2)
/-! impl.IsClue -/
noncomputable def c_i_IsClue : FnCx := { env := env 38 [(53, S_i_within)] [], body := bodyOf Tryz.f52, res := [.tmp 2], ins := [.ro kClue], out := [(kbool, true)], T := Bool, fin := fun r => r.1.1, inj := fun t => ((t, ()), ((), ())), pts := [], fuel := 400, dr := noDr }
noncomputable def i_IsClue (c0_Kind : Int) (c0_A : Int) (c0_B : Int) : Bool :=
  bif !i_within c0_Kind 0 5 then false
  else
    bif !i_within c0_B 0 60 then false
    else
      bif c0_Kind == 2 then bif i_within c0_A 1 3 then decide (c0_B ≤ 1) else false
      else bif c0_Kind == 3 then bif i_within c0_A 1 7 then decide (c0_B ≤ 1) else false else c0_A == 0
theorem i_IsClue_e (c0_Kind : Int) (c0_A : Int) (c0_B : Int) : c_i_IsClue.start c_i_IsClue.L ((c0_Kind, c0_A, c0_B), ()) = some (i_IsClue c0_Kind c0_A c0_B) := by
  refine Eq.trans (b := (bif !i_within c0_Kind 0 5 then some false else bif !i_within c0_B 0 60 then some false else bif c0_Kind == 2 then bif i_within c0_A 1 3 then some (decide (c0_B ≤ 1)) else some false else bif c0_Kind == 3 then bif i_within c0_A 1 7 then some (decide (c0_B ≤ 1)) else some false else some (c0_A == 0) : Option Bool)) (by kernel_rfl) ?_
  unfold i_IsClue
  repeat (first | rfl | apply condS)
noncomputable def F_i_IsClue : Ins c_i_IsClue.ins → Bool := fun x => i_IsClue x.1.1 x.1.2.1 x.1.2.2
noncomputable def S_i_IsClue : FSpec := mkT c_i_IsClue.env.pre c_i_IsClue.ins c_i_IsClue.out c_i_IsClue.inj F_i_IsClue
theorem h_i_IsClue : Cert Tryz.prog 52 S_i_IsClue := FnCx.certT (c := c_i_IsClue) F_i_IsClue (tyOk _ _ _) (spOk ⟨h_i_within, fun _ _ h => h, trivial⟩) (fun _ _ _ _ _ hs => noDr_ok) Tryz.func52 rfl rfl Tryz.ntmps52 (by kernel_rfl) rfl rfl (fun _ => rfl) trivial (fun x => .inl ⟨c_i_IsClue.start () x, fun _ => rfl⟩) (fun x hb => by
  obtain ⟨⟨c0_Kind, c0_A, c0_B⟩, _⟩ := x
  exact i_IsClue_e c0_Kind c0_A c0_B)
/-! impl.IsPuzzle$1 -/
noncomputable def c_i_IsPuzzle_c1 : FnCx := { env := env 6 [(52, S_i_IsClue)] [], body := bodyOf Tryz.f51, res := [.tmp 2], ins := [.ro kClue], out := [(kbool, true)], T := Bool, fin := fun r => r.1.1, inj := fun t => ((t, ()), ((), ())), pts := [], fuel := 400, dr := noDr }
noncomputable def i_IsPuzzle_c1 (c0_Kind : Int) (c0_A : Int) (c0_B : Int) : Bool :=
  !i_IsClue c0_Kind c0_A c0_B
theorem i_IsPuzzle_c1_e (c0_Kind : Int) (c0_A : Int) (c0_B : Int) : c_i_IsPuzzle_c1.start c_i_IsPuzzle_c1.L ((c0_Kind, c0_A, c0_B), ()) = some (i_IsPuzzle_c1 c0_Kind c0_A c0_B) := by kernel_rfl
noncomputable def F_i_IsPuzzle_c1 : Ins c_i_IsPuzzle_c1.ins → Bool := fun x => i_IsPuzzle_c1 x.1.1 x.1.2.1 x.1.2.2
noncomputable def S_i_IsPuzzle_c1 : FSpec := mkT c_i_IsPuzzle_c1.env.pre c_i_IsPuzzle_c1.ins c_i_IsPuzzle_c1.out c_i_IsPuzzle_c1.inj F_i_IsPuzzle_c1
theorem h_i_IsPuzzle_c1 : Cert Tryz.prog 51 S_i_IsPuzzle_c1 := FnCx.certT (c := c_i_IsPuzzle_c1) F_i_IsPuzzle_c1 (tyOk _ _ _) (spOk ⟨h_i_IsClue, fun _ _ h => h, trivial⟩) (fun _ _ _ _ _ hs => noDr_ok) Tryz.func51 rfl rfl Tryz.ntmps51 (by kernel_rfl) rfl rfl (fun _ => rfl) trivial (fun x => .inl ⟨c_i_IsPuzzle_c1.start () x, fun _ => rfl⟩) (fun x hb => by
  obtain ⟨⟨c0_Kind, c0_A, c0_B⟩, _⟩ := x
  exact i_IsPuzzle_c1_e c0_Kind c0_A c0_B)
/-! slices.IndexFunc[[]impl.Clue,impl.Clue] -/
noncomputable def c_slices_IndexFunc_Clue__i_IsPuzzle_c1 : FnCx := { env := env 19 [(51, S_i_IsPuzzle_c1)] [], body := bodyOf Tryz.f83, res := [.tmp 4], ins := [.ro kSClue, .fn 51 []], out := [(kint, true)], T := Int, fin := fun r => r.1.1, inj := fun t => ((t, ()), ((), (), ())), pts := [([.inLoop [1, 0, 1, 0, 0], .inBlock 0, .code [1, 1]], Shape.mk [Bs.row kClue 51 false] [(0, Ss.one (Cs.sl 0)), (1, Ss.fn 51 []), (7, Ss.one (Cs.sc kint)), (8, Ss.one (Cs.sc kint))] [Ss.one (Cs.any), Ss.fn 51 []])], fuel := 400, dr := noDr }
noncomputable def slices_IndexFunc_Clue__i_IsPuzzle_c1_t1 (g1 : List (Int × (Int × Int)) → Int → Int → Option (Int)) (r0 : List (Int × (Int × Int))) (s7 : Int) (s8 : Int) : Option Int :=
  bif decide (s8 < s7) then
    bif decide (0 ≤ s8) then
      bif decide (s8 < (↑(List.length r0) : Int)) then
        bif
            i_IsPuzzle_c1 (Prod.fst (rdk kClue r0 s8))
              (Prod.fst (Prod.snd (rdk kClue r0 s8)))
              (Prod.snd (Prod.snd (rdk kClue r0 s8))) then
          some s8
        else g1 r0 s7 (IntKind.wrap IntKind.i64 (s8 + 1))
      else none
    else none
  else some (-1)
noncomputable def slices_IndexFunc_Clue__i_IsPuzzle_c1_t0 (g1 : List (Int × (Int × Int)) → Int → Int → Option (Int)) (s0 : List (Int × Int × Int)) : Option Int :=
  g1 s0 (↑(List.length s0) : Int) 0
theorem slices_IndexFunc_Clue__i_IsPuzzle_c1_ts : Tails c_slices_IndexFunc_Clue__i_IsPuzzle_c1.pts c_slices_IndexFunc_Clue__i_IsPuzzle_c1.round :=
  ⟨fun s => by
    obtain ⟨⟨r0, _⟩, ⟨_, _, s7, s8, _⟩, ⟨_, _, _⟩⟩ := s
    refine Tail.eq (Y := fun g => slices_IndexFunc_Clue__i_IsPuzzle_c1_t1 (fun r0 s7 s8 => g.1 ((r0, ()), ((), (), s7, s8, ()), ((), (), ()))) r0 s7 s8) ?_ (fun g => by kernel_rfl)
    simp only [slices_IndexFunc_Clue__i_IsPuzzle_c1_t1]; repeat (first | exact Tail.const _ | exact Tail.here _ | exact Tail.there (Tail.here _) | exact Tail.there (Tail.there (Tail.here _)) | exact Tail.there (Tail.there (Tail.there (Tail.here _))) | exact Tail.there (Tail.there (Tail.there (Tail.there (Tail.here _)))) | exact Tail.there (Tail.there (Tail.there (Tail.there (Tail.there (Tail.here _))))) | apply Tail.cond | (apply Tail.bind; intro _)), trivial⟩
theorem slices_IndexFunc_Clue__i_IsPuzzle_c1_hs : ∀ x, Tail c_slices_IndexFunc_Clue__i_IsPuzzle_c1.pts (fun g => c_slices_IndexFunc_Clue__i_IsPuzzle_c1.start g x) := fun x => by
    obtain ⟨s0, _, _⟩ := x
    refine Tail.eq (Y := fun g => slices_IndexFunc_Clue__i_IsPuzzle_c1_t0 (fun r0 s7 s8 => g.1 ((r0, ()), ((), (), s7, s8, ()), ((), (), ()))) s0) ?_ (fun g => by kernel_rfl)
    simp only [slices_IndexFunc_Clue__i_IsPuzzle_c1_t0]; repeat (first | exact Tail.const _ | exact Tail.here _ | exact Tail.there (Tail.here _) | exact Tail.there (Tail.there (Tail.here _)) | exact Tail.there (Tail.there (Tail.there (Tail.here _))) | exact Tail.there (Tail.there (Tail.there (Tail.there (Tail.here _)))) | exact Tail.there (Tail.there (Tail.there (Tail.there (Tail.there (Tail.here _))))) | apply Tail.cond | (apply Tail.bind; intro _))
noncomputable def slices_IndexFunc_Clue__i_IsPuzzle_c1_L1 (r0 : List (Int × (Int × Int))) (s7 : Int) (s8 : Int) : Option Int := c_slices_IndexFunc_Clue__i_IsPuzzle_c1.L.1 ((r0, ()), ((), (), s7, s8, ()), ((), (), ()))
theorem slices_IndexFunc_Clue__i_IsPuzzle_c1_u1 (r0 : List (Int × (Int × Int))) (s7 : Int) (s8 : Int) : slices_IndexFunc_Clue__i_IsPuzzle_c1_L1 r0 s7 s8 = slices_IndexFunc_Clue__i_IsPuzzle_c1_t1 slices_IndexFunc_Clue__i_IsPuzzle_c1_L1 r0 s7 s8 :=
  (congrArg (fun g => g.1 ((r0, ()), ((), (), s7, s8, ()), ((), (), ()))) (FnCx.L_eq slices_IndexFunc_Clue__i_IsPuzzle_c1_ts)).trans (by kernel_rfl)
noncomputable def slices_IndexFunc_Clue__i_IsPuzzle_c1 (s0 : List (Int × Int × Int)) : Option Int := slices_IndexFunc_Clue__i_IsPuzzle_c1_t0 slices_IndexFunc_Clue__i_IsPuzzle_c1_L1 s0
theorem slices_IndexFunc_Clue__i_IsPuzzle_c1_e (s0 : List (Int × Int × Int)) : c_slices_IndexFunc_Clue__i_IsPuzzle_c1.start c_slices_IndexFunc_Clue__i_IsPuzzle_c1.L (s0, (), ()) = slices_IndexFunc_Clue__i_IsPuzzle_c1 s0 := by kernel_rfl
-- NICE tot
noncomputable def slices_IndexFunc_Clue__i_IsPuzzle_c1_n (l : List (Int × Int × Int)) : Int := idxF (fun x => i_IsPuzzle_c1 x.1 x.2.1 x.2.2) l 0
theorem slices_IndexFunc_Clue__i_IsPuzzle_c1_ok (l : List (Int × Int × Int)) (hb : BdI c_slices_IndexFunc_Clue__i_IsPuzzle_c1.ins (l, (), ())) : slices_IndexFunc_Clue__i_IsPuzzle_c1 l = some (slices_IndexFunc_Clue__i_IsPuzzle_c1_n l) :=
  have hm : l.length ≤ maxLen := hb.1.1
  loop_idx (L := fun i => slices_IndexFunc_Clue__i_IsPuzzle_c1_L1 l l.length (i : Int)) (l := l) (p := fun x => i_IsPuzzle_c1 x.1 x.2.1 x.2.2)
    (fun i h => by simp only [slices_IndexFunc_Clue__i_IsPuzzle_c1_u1 l l.length i, slices_IndexFunc_Clue__i_IsPuzzle_c1_t1, rdk_get (k := kClue) h, wrapS h hm]; simp [h]) (by simp [slices_IndexFunc_Clue__i_IsPuzzle_c1_u1 l l.length l.length, slices_IndexFunc_Clue__i_IsPuzzle_c1_t1])
noncomputable def F_slices_IndexFunc_Clue__i_IsPuzzle_c1 : Ins c_slices_IndexFunc_Clue__i_IsPuzzle_c1.ins → Int := fun x => slices_IndexFunc_Clue__i_IsPuzzle_c1_n x.1
noncomputable def S_slices_IndexFunc_Clue__i_IsPuzzle_c1 : FSpec := mkT c_slices_IndexFunc_Clue__i_IsPuzzle_c1.env.pre c_slices_IndexFunc_Clue__i_IsPuzzle_c1.ins c_slices_IndexFunc_Clue__i_IsPuzzle_c1.out c_slices_IndexFunc_Clue__i_IsPuzzle_c1.inj F_slices_IndexFunc_Clue__i_IsPuzzle_c1
theorem h_slices_IndexFunc_Clue__i_IsPuzzle_c1 : Cert Tryz.prog 83 S_slices_IndexFunc_Clue__i_IsPuzzle_c1 := FnCx.certT (c := c_slices_IndexFunc_Clue__i_IsPuzzle_c1) F_slices_IndexFunc_Clue__i_IsPuzzle_c1 (tyOk _ _ _) (spOk ⟨h_i_IsPuzzle_c1, fun _ _ h => h, trivial⟩) (fun _ _ _ _ _ hs => noDr_ok) Tryz.func83 rfl rfl Tryz.ntmps83 (by kernel_rfl) rfl rfl (fun _ => rfl) slices_IndexFunc_Clue__i_IsPuzzle_c1_ts slices_IndexFunc_Clue__i_IsPuzzle_c1_hs (fun x hb => by
  obtain ⟨s0, _, _⟩ := x
  exact (slices_IndexFunc_Clue__i_IsPuzzle_c1_e s0).trans (slices_IndexFunc_Clue__i_IsPuzzle_c1_ok s0 hb))
/-! slices.ContainsFunc[[]impl.Clue,impl.Clue] -/
noncomputable def c_slices_ContainsFunc_Clue__i_IsPuzzle_c1 : FnCx := { env := env 9 [(83, S_slices_IndexFunc_Clue__i_IsPuzzle_c1)] [], body := bodyOf Tryz.f50, res := [.tmp 4], ins := [.ro kSClue, .fn 51 []], out := [(kbool, true)], T := Bool, fin := fun r => r.1.1, inj := fun t => ((t, ()), ((), (), ())), pts := [], fuel := 400, dr := noDr }
noncomputable def slices_ContainsFunc_Clue__i_IsPuzzle_c1 (s0 : List (Int × Int × Int)) : Bool :=
  decide (slices_IndexFunc_Clue__i_IsPuzzle_c1_n s0 ≥ 0)
theorem slices_ContainsFunc_Clue__i_IsPuzzle_c1_e (s0 : List (Int × Int × Int)) : c_slices_ContainsFunc_Clue__i_IsPuzzle_c1.start c_slices_ContainsFunc_Clue__i_IsPuzzle_c1.L (s0, (), ()) = some (slices_ContainsFunc_Clue__i_IsPuzzle_c1 s0) := by kernel_rfl
noncomputable def F_slices_ContainsFunc_Clue__i_IsPuzzle_c1 : Ins c_slices_ContainsFunc_Clue__i_IsPuzzle_c1.ins → Bool := fun x => slices_ContainsFunc_Clue__i_IsPuzzle_c1 x.1
noncomputable def S_slices_ContainsFunc_Clue__i_IsPuzzle_c1 : FSpec := mkT c_slices_ContainsFunc_Clue__i_IsPuzzle_c1.env.pre c_slices_ContainsFunc_Clue__i_IsPuzzle_c1.ins c_slices_ContainsFunc_Clue__i_IsPuzzle_c1.out c_slices_ContainsFunc_Clue__i_IsPuzzle_c1.inj F_slices_ContainsFunc_Clue__i_IsPuzzle_c1
theorem h_slices_ContainsFunc_Clue__i_IsPuzzle_c1 : Cert Tryz.prog 50 S_slices_ContainsFunc_Clue__i_IsPuzzle_c1 := FnCx.certT (c := c_slices_ContainsFunc_Clue__i_IsPuzzle_c1) F_slices_ContainsFunc_Clue__i_IsPuzzle_c1 (tyOk _ _ _) (spOk ⟨h_slices_IndexFunc_Clue__i_IsPuzzle_c1, fun _ _ h => h, trivial⟩) (fun _ _ _ _ _ hs => noDr_ok) Tryz.func50 rfl rfl Tryz.ntmps50 (by kernel_rfl) rfl rfl (fun _ => rfl) trivial (fun x => .inl ⟨c_slices_ContainsFunc_Clue__i_IsPuzzle_c1.start () x, fun _ => rfl⟩) (fun x hb => by
  obtain ⟨s0, _, _⟩ := x
  exact slices_ContainsFunc_Clue__i_IsPuzzle_c1_e s0)
/-! impl.IsPuzzle -/
noncomputable def c_i_IsPuzzle : FnCx := { env := env 13 [(50, S_slices_ContainsFunc_Clue__i_IsPuzzle_c1)] [], body := bodyOf Tryz.f26, res := [.tmp 2], ins := [.ro kPuzzle], out := [(kbool, true)], T := Bool, fin := fun r => r.1.1, inj := fun t => ((t, ()), ((), ())), pts := [], fuel := 400, dr := noDr }
noncomputable def i_IsPuzzle (p0_Clues : List (Int × Int × Int)) : Bool :=
  bif decide ((↑(List.length p0_Clues) : Int) ≤ 6) then !slices_ContainsFunc_Clue__i_IsPuzzle_c1 p0_Clues else false
theorem i_IsPuzzle_e (p0_Clues : List (Int × Int × Int)) : c_i_IsPuzzle.start c_i_IsPuzzle.L (p0_Clues, ()) = some (i_IsPuzzle p0_Clues) := by
  refine Eq.trans (b := (bif decide ((↑(List.length p0_Clues) : Int) ≤ 6) then some !slices_ContainsFunc_Clue__i_IsPuzzle_c1 p0_Clues else some false : Option Bool)) (by kernel_rfl) ?_
  unfold i_IsPuzzle
  repeat (first | rfl | apply condS)
theorem IsClue_eq (a b c : Int) : i_IsClue a b c = s_pzClue a b c := by
  unfold i_IsClue s_pzClue i_within s_l1In
  have e : decide (c ≤ 1) = decide (c < 2) := by rw [decide_eq_decide]; omega
  rw [e]
  simp only [Bool.cond_eq_ite, ge_iff_le]
  grind
theorem IsPuzzle_eq (l : List (Int × Int × Int)) : i_IsPuzzle l = s_pzGood_n l := by
  unfold i_IsPuzzle s_pzGood_n slices_ContainsFunc_Clue__i_IsPuzzle_c1 slices_IndexFunc_Clue__i_IsPuzzle_c1_n
  rw [idxF_any]
  by_cases h : (l.length : Int) ≤ 6
  · have h' : ¬ ((l.length : Int) > 6) := by omega
    simp only [h, h', decide_true, decide_false, cond_true, cond_false, i_IsPuzzle_c1, IsClue_eq]
    cases l.any _ <;> rfl
  · have h' : ((l.length : Int) > 6) := by omega
    simp [h, h']
noncomputable def F_i_IsPuzzle : Ins c_i_IsPuzzle.ins → Bool := fun x => i_IsPuzzle x.1
noncomputable def S_i_IsPuzzle : FSpec := mkT c_i_IsPuzzle.env.pre c_i_IsPuzzle.ins c_i_IsPuzzle.out c_i_IsPuzzle.inj F_i_IsPuzzle
theorem h_i_IsPuzzle : Cert Tryz.prog 26 S_i_IsPuzzle := FnCx.certT (c := c_i_IsPuzzle) F_i_IsPuzzle (tyOk _ _ _) (spOk ⟨h_slices_ContainsFunc_Clue__i_IsPuzzle_c1, fun _ _ h => h, trivial⟩) (fun _ _ _ _ _ hs => noDr_ok) Tryz.func26 rfl rfl Tryz.ntmps26 (by kernel_rfl) rfl rfl (fun _ => rfl) trivial (fun x => .inl ⟨c_i_IsPuzzle.start () x, fun _ => rfl⟩) (fun x hb => by
  obtain ⟨p0_Clues, _⟩ := x
  exact i_IsPuzzle_e p0_Clues)
end Go.Proofs.YtoldoplpnkojdaaGreatDoor.V
