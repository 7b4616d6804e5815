/- Functions of the program, as plain functions. No condition. -/
import Derived.Test.YtgflffacaobkoaaGreatDoorTyL
set_option linter.unusedVariables false
set_option linter.unusedSimpArgs false
set_option maxRecDepth 100000
namespace Go.Proofs.YtgflffacaobkoaaGreatDoor.V
open Go Go.Ev Go.Proofs
/-! spec.l1In -/
noncomputable def c_s_l1In : FnCx := { env := env 15 [] [], body := bodyOf Tryz.f64, res := [.tmp 6], ins := [.ro kint, .ro kint, .ro kint], out := [(kbool, true)], T := Bool, fin := fun r => r.1.1, inj := fun t => ((t, ()), ((), (), (), ())), pts := [], fuel := 400, dr := noDr }
noncomputable def s_l1In (n0 : Int) (lo1 : Int) (hi2 : Int) : Bool :=
  bif decide (n0 ≥ lo1) then decide (n0 ≤ hi2) else false
theorem s_l1In_e (n0 : Int) (lo1 : Int) (hi2 : Int) : c_s_l1In.start c_s_l1In.L (n0, lo1, hi2, ()) = some (s_l1In n0 lo1 hi2) := by
  refine Eq.trans (b := (bif decide (n0 ≥ lo1) then some (decide (n0 ≤ hi2)) else some false : Option Bool)) (by kernel_rfl) ?_
  unfold s_l1In
  repeat (first | rfl | apply condS)
noncomputable def F_s_l1In : Ins c_s_l1In.ins → Bool := fun x => s_l1In x.1 x.2.1 x.2.2.1
noncomputable def S_s_l1In : FSpec := mkT c_s_l1In.env.pre c_s_l1In.ins c_s_l1In.out c_s_l1In.inj F_s_l1In
theorem h_s_l1In : Cert Tryz.prog 64 S_s_l1In := FnCx.certT (c := c_s_l1In) F_s_l1In (tyOk _ _ _) (spOk trivial) (fun _ _ _ _ _ hs => noDr_ok) Tryz.func64 rfl rfl Tryz.ntmps64 (by kernel_rfl) rfl rfl (fun _ => rfl) trivial (fun x => .inl ⟨c_s_l1In.start () x, fun _ => rfl⟩) (fun x hb => by
  obtain ⟨n0, lo1, hi2, _⟩ := x
  exact s_l1In_e n0 lo1 hi2)
/-! spec.l1Rising -/
noncomputable def c_s_l1Rising : FnCx := { env := env 35 [(64, S_s_l1In)] [], body := bodyOf Tryz.f77, res := [.tmp 6], ins := [.ro kSint, .ro kint, .ro kint], out := [(kbool, true)], T := Bool, fin := fun r => r.1.1, inj := fun t => ((t, ()), ((), (), (), ())), pts := [([.inLoop [1, 0, 1, 0, 0], .inBlock 0, .code [1, 1]], Shape.mk [Bs.row kint 3 false] [(0, Ss.one (Cs.sl 0)), (1, Ss.one (Cs.sc kint)), (2, Ss.one (Cs.sc kint)), (9, Ss.one (Cs.sl 0)), (10, Ss.one (Cs.sc kint)), (11, Ss.one (Cs.sc kint))] [Ss.one (Cs.any), Ss.one (Cs.any), Ss.one (Cs.any)])], fuel := 400, dr := noDr }
noncomputable def s_l1Rising_t1 (g1 : List (Int) → Int → Int → Int → Int → Option (Bool)) (r0 : List (Int)) (lo1 : Int) (hi2 : Int) (s10 : Int) (s11 : Int) : Option Bool :=
  bif decide (s11 < s10) then
    bif decide (0 ≤ s11) then
      bif decide (s11 < (↑(List.length r0) : Int)) then
        bif !s_l1In (rdk kint r0 s11) lo1 hi2 then some false
        else
          bif decide (s11 > 0) then
            bif decide (0 ≤ IntKind.wrap IntKind.i64 (s11 - 1)) then
              bif decide (IntKind.wrap IntKind.i64 (s11 - 1) < (↑(List.length r0) : Int)) then
                bif decide (rdk kint r0 (IntKind.wrap IntKind.i64 (s11 - 1)) ≥ rdk kint r0 s11) then some false
                else g1 r0 lo1 hi2 s10 (IntKind.wrap IntKind.i64 (s11 + 1))
              else none
            else none
          else g1 r0 lo1 hi2 s10 (IntKind.wrap IntKind.i64 (s11 + 1))
      else none
    else none
  else some true
noncomputable def s_l1Rising_t0 (g1 : List (Int) → Int → Int → Int → Int → Option (Bool)) (l0 : List Int) (lo1 : Int) (hi2 : Int) : Option Bool :=
  g1 l0 lo1 hi2 (↑(List.length l0) : Int) 0
theorem s_l1Rising_ts : Tails c_s_l1Rising.pts c_s_l1Rising.round :=
  ⟨fun s => by
    obtain ⟨⟨r0, _⟩, ⟨_, lo1, hi2, _, s10, s11, _⟩, ⟨_, _, _, _⟩⟩ := s
    refine Tail.eq (Y := fun g => s_l1Rising_t1 (fun r0 lo1 hi2 s10 s11 => g.1 ((r0, ()), ((), lo1, hi2, (), s10, s11, ()), ((), (), (), ()))) r0 lo1 hi2 s10 s11) ?_ (fun g => by kernel_rfl)
    simp only [s_l1Rising_t1]; repeat (first | exact Tail.const _ | exact Tail.here _ | exact Tail.there (Tail.here _) | exact Tail.there (Tail.there (Tail.here _)) | exact Tail.there (Tail.there (Tail.there (Tail.here _))) | exact Tail.there (Tail.there (Tail.there (Tail.there (Tail.here _)))) | exact Tail.there (Tail.there (Tail.there (Tail.there (Tail.there (Tail.here _))))) | apply Tail.cond | (apply Tail.bind; intro _)), trivial⟩
theorem s_l1Rising_hs : ∀ x, Tail c_s_l1Rising.pts (fun g => c_s_l1Rising.start g x) := fun x => by
    obtain ⟨l0, lo1, hi2, _⟩ := x
    refine Tail.eq (Y := fun g => s_l1Rising_t0 (fun r0 lo1 hi2 s10 s11 => g.1 ((r0, ()), ((), lo1, hi2, (), s10, s11, ()), ((), (), (), ()))) l0 lo1 hi2) ?_ (fun g => by kernel_rfl)
    simp only [s_l1Rising_t0]; repeat (first | exact Tail.const _ | exact Tail.here _ | exact Tail.there (Tail.here _) | exact Tail.there (Tail.there (Tail.here _)) | exact Tail.there (Tail.there (Tail.there (Tail.here _))) | exact Tail.there (Tail.there (Tail.there (Tail.there (Tail.here _)))) | exact Tail.there (Tail.there (Tail.there (Tail.there (Tail.there (Tail.here _))))) | apply Tail.cond | (apply Tail.bind; intro _))
noncomputable def s_l1Rising_L1 (r0 : List (Int)) (lo1 : Int) (hi2 : Int) (s10 : Int) (s11 : Int) : Option Bool := c_s_l1Rising.L.1 ((r0, ()), ((), lo1, hi2, (), s10, s11, ()), ((), (), (), ()))
theorem s_l1Rising_u1 (r0 : List (Int)) (lo1 : Int) (hi2 : Int) (s10 : Int) (s11 : Int) : s_l1Rising_L1 r0 lo1 hi2 s10 s11 = s_l1Rising_t1 s_l1Rising_L1 r0 lo1 hi2 s10 s11 :=
  (congrArg (fun g => g.1 ((r0, ()), ((), lo1, hi2, (), s10, s11, ()), ((), (), (), ()))) (FnCx.L_eq s_l1Rising_ts)).trans (by kernel_rfl)
noncomputable def s_l1Rising (l0 : List Int) (lo1 : Int) (hi2 : Int) : Option Bool := s_l1Rising_t0 s_l1Rising_L1 l0 lo1 hi2
theorem s_l1Rising_e (l0 : List Int) (lo1 : Int) (hi2 : Int) : c_s_l1Rising.start c_s_l1Rising.L (l0, lo1, hi2, ()) = s_l1Rising l0 lo1 hi2 := by kernel_rfl
-- NICE tot
noncomputable def s_l1Rising_n (l : List Int) (lo hi : Int) : Bool := rising lo hi l
theorem s_l1In_inB (x lo hi : Int) : s_l1In x lo hi = inB lo hi x := by
  unfold s_l1In inB
  cases h1 : decide (lo ≤ x) <;> simp_all
theorem s_l1Rising_ok (l : List Int) (lo hi : Int) (hb : BdI c_s_l1Rising.ins (l, lo, hi, ())) : s_l1Rising l lo hi = some (s_l1Rising_n l lo hi) :=
  have hm : l.length ≤ maxLen := hb.1.1
  loop_prev (L := fun i => s_l1Rising_L1 l lo hi l.length (i : Int)) (l := l) (p := riseP lo hi)
    (fun i h => by
      simp only [s_l1Rising_u1 l lo hi l.length i, s_l1Rising_t1, rdk_get (k := kint) h, wrapS h hm, s_l1In_inB]
      by_cases hi0 : i = 0
      · subst hi0
        simp only [if_true, riseP, ltO, Bool.and_true]
        cases inB lo hi l[0] <;> simp [h]
      · have hl : i - 1 < l.length := by omega
        have hg : 0 < i := by omega
        simp only [wrapP h hm hi0, rdk_get (k := kint) hl, if_neg hi0, riseP, List.getElem?_eq_getElem hl, ltO]
        have e1 : ((l[i - 1] : Int) < l[i]) = ¬ (l[i] ≤ l[i - 1]) := by simp
        cases inB lo hi l[i] <;> by_cases hc : l[i] ≤ l[i - 1] <;> simp [h, hl, hg, hc, e1]) (by simp [s_l1Rising_u1 l lo hi l.length l.length, s_l1Rising_t1])
noncomputable def F_s_l1Rising : Ins c_s_l1Rising.ins → Bool := fun x => s_l1Rising_n x.1 x.2.1 x.2.2.1
noncomputable def S_s_l1Rising : FSpec := mkT c_s_l1Rising.env.pre c_s_l1Rising.ins c_s_l1Rising.out c_s_l1Rising.inj F_s_l1Rising
theorem h_s_l1Rising : Cert Tryz.prog 77 S_s_l1Rising := FnCx.certT (c := c_s_l1Rising) F_s_l1Rising (tyOk _ _ _) (spOk ⟨h_s_l1In, fun _ _ h => h, trivial⟩) (fun _ _ _ _ _ hs => noDr_ok) Tryz.func77 rfl rfl Tryz.ntmps77 (by kernel_rfl) rfl rfl (fun _ => rfl) s_l1Rising_ts s_l1Rising_hs (fun x hb => by
  obtain ⟨l0, lo1, hi2, _⟩ := x
  exact (s_l1Rising_e l0 lo1 hi2).trans (s_l1Rising_ok l0 lo1 hi2 hb))
/-! spec.clGood -/
noncomputable def c_s_clGood : FnCx := { env := env 25 [(64, S_s_l1In), (77, S_s_l1Rising)] [], body := bodyOf Tryz.f41, res := [.tmp 2], ins := [.ro kStairs], out := [(kbool, true)], T := Bool, fin := fun r => r.1.1, inj := fun t => ((t, ()), ((), ())), pts := [], fuel := 400, dr := noDr }
noncomputable def s_clGood (s0_Steps : Int) (s0_Strides : List Int) (s0_Broken : List Int) : Bool :=
  bif s_l1In s0_Steps 1 60 then
    bif s_l1In (↑(List.length s0_Strides) : Int) 1 5 then
      bif s_l1Rising_n s0_Strides 1 9 then s_l1Rising_n s0_Broken 1 (IntKind.wrap IntKind.i64 (s0_Steps - 1)) else false
    else false
  else false
theorem s_clGood_e (s0_Steps : Int) (s0_Strides : List Int) (s0_Broken : List Int) : c_s_clGood.start c_s_clGood.L ((s0_Steps, s0_Strides, s0_Broken), ()) = some (s_clGood s0_Steps s0_Strides s0_Broken) := by
  refine Eq.trans (b := (bif s_l1In s0_Steps 1 60 then bif s_l1In (↑(List.length s0_Strides) : Int) 1 5 then bif s_l1Rising_n s0_Strides 1 9 then some (s_l1Rising_n s0_Broken 1 (IntKind.wrap IntKind.i64 (s0_Steps - 1))) else some false else some false else some false : Option Bool)) (by kernel_rfl) ?_
  unfold s_clGood
  repeat (first | rfl | apply condS)
theorem s_clGood_iff {a : Int} {b c : List Int} : s_clGood a b c = true ↔ (1 ≤ a ∧ a ≤ 60) ∧ (1 ≤ b.length ∧ b.length ≤ 5) ∧ rising 1 9 b = true ∧ rising 1 (a - 1) c = true := by
  unfold s_clGood
  simp only [s_l1In_inB, s_l1Rising_n]
  by_cases h : inB 1 60 a = true
  · have h2 := h
    simp only [inB, Bool.and_eq_true, decide_eq_true_eq] at h2
    rw [wrapI (by omega) (by omega), h]
    by_cases h3 : inB 1 5 (b.length : Int) = true
    · have h4 := h3
      simp only [inB, Bool.and_eq_true, decide_eq_true_eq] at h4
      rw [h3]
      have h5 : 1 ≤ b.length ∧ b.length ≤ 5 := by omega
      cases rising 1 9 b <;> simp [h2, h5]
    · have h4 : ¬ (1 ≤ b.length ∧ b.length ≤ 5) := fun h5 => h3 (by simp only [inB, Bool.and_eq_true, decide_eq_true_eq]; omega)
      simp only [Bool.not_eq_true] at h3
      rw [h3]
      simp [h4]
  · have h4 : ¬ (1 ≤ a ∧ a ≤ 60) := fun h5 => h (by simp only [inB, Bool.and_eq_true, decide_eq_true_eq]; omega)
    simp only [Bool.not_eq_true] at h
    rw [h]
    simp [h4]
theorem s_clGood_len {a : Int} {b c : List Int} (h : s_clGood a b c = true) : b.length ≤ 5 ∧ c.length ≤ 60 := by
  obtain ⟨h1, h2, h3, h4⟩ := s_clGood_iff.1 h
  have := rising_len h4
  omega
noncomputable def F_s_clGood : Ins c_s_clGood.ins → Bool := fun x => s_clGood x.1.1 x.1.2.1 x.1.2.2
noncomputable def S_s_clGood : FSpec := mkT c_s_clGood.env.pre c_s_clGood.ins c_s_clGood.out c_s_clGood.inj F_s_clGood
theorem h_s_clGood : Cert Tryz.prog 41 S_s_clGood := FnCx.certT (c := c_s_clGood) F_s_clGood (tyOk _ _ _) (spOk ⟨h_s_l1In, fun _ _ h => h, ⟨h_s_l1Rising, fun _ _ h => h, trivial⟩⟩) (fun _ _ _ _ _ hs => noDr_ok) Tryz.func41 rfl rfl Tryz.ntmps41 (by kernel_rfl) rfl rfl (fun _ => rfl) trivial (fun x => .inl ⟨c_s_clGood.start () x, fun _ => rfl⟩) (fun x hb => by
  obtain ⟨⟨s0_Steps, s0_Strides, s0_Broken⟩, _⟩ := x
  exact s_clGood_e s0_Steps s0_Strides s0_Broken)
/-! impl.within -/
noncomputable def c_i_within : FnCx := { env := env 15 [] [], body := bodyOf Tryz.f57, res := [.tmp 6], ins := [.ro kint, .ro kint, .ro kint], out := [(kbool, true)], T := Bool, fin := fun r => r.1.1, inj := fun t => ((t, ()), ((), (), (), ())), pts := [], fuel := 400, dr := noDr }
noncomputable def i_within (n0 : Int) (low1 : Int) (high2 : Int) : Bool :=
  bif decide (low1 ≤ n0) then decide (n0 ≤ high2) else false
theorem i_within_e (n0 : Int) (low1 : Int) (high2 : Int) : c_i_within.start c_i_within.L (n0, low1, high2, ()) = some (i_within n0 low1 high2) := by
  refine Eq.trans (b := (bif decide (low1 ≤ n0) then some (decide (n0 ≤ high2)) else some false : Option Bool)) (by kernel_rfl) ?_
  unfold i_within
  repeat (first | rfl | apply condS)
noncomputable def F_i_within : Ins c_i_within.ins → Bool := fun x => i_within x.1 x.2.1 x.2.2.1
noncomputable def S_i_within : FSpec := mkT c_i_within.env.pre c_i_within.ins c_i_within.out c_i_within.inj F_i_within
theorem h_i_within : Cert Tryz.prog 57 S_i_within := FnCx.certT (c := c_i_within) F_i_within (tyOk _ _ _) (spOk trivial) (fun _ _ _ _ _ hs => noDr_ok) Tryz.func57 rfl rfl Tryz.ntmps57 (by kernel_rfl) rfl rfl (fun _ => rfl) trivial (fun x => .inl ⟨c_i_within.start () x, fun _ => rfl⟩) (fun x hb => by
  obtain ⟨n0, low1, high2, _⟩ := x
  exact i_within_e n0 low1 high2)
/-! impl.rise -/
noncomputable def c_i_rise : FnCx := { env := env 35 [(57, S_i_within)] [], body := bodyOf Tryz.f58, res := [.tmp 6], ins := [.ro kSint, .ro kint, .ro kint], out := [(kbool, true)], T := Bool, fin := fun r => r.1.1, inj := fun t => ((t, ()), ((), (), (), ())), pts := [([.inLoop [1, 0, 1, 0, 0], .inBlock 0, .code [1, 1]], Shape.mk [Bs.row kint 3 false] [(0, Ss.one (Cs.sl 0)), (1, Ss.one (Cs.sc kint)), (2, Ss.one (Cs.sc kint)), (9, Ss.one (Cs.sl 0)), (10, Ss.one (Cs.sc kint)), (11, Ss.one (Cs.sc kint))] [Ss.one (Cs.any), Ss.one (Cs.any), Ss.one (Cs.any)])], fuel := 400, dr := noDr }
noncomputable def i_rise_t1 (g1 : List (Int) → Int → Int → Int → Int → Option (Bool)) (r0 : List (Int)) (low1 : Int) (high2 : Int) (s10 : Int) (s11 : Int) : Option Bool :=
  bif decide (s11 < s10) then
    bif decide (0 ≤ s11) then
      bif decide (s11 < (↑(List.length r0) : Int)) then
        bif !i_within (rdk kint r0 s11) low1 high2 then some false
        else
          bif decide (s11 > 0) then
            bif decide (0 ≤ IntKind.wrap IntKind.i64 (s11 - 1)) then
              bif decide (IntKind.wrap IntKind.i64 (s11 - 1) < (↑(List.length r0) : Int)) then
                bif decide (rdk kint r0 s11 ≤ rdk kint r0 (IntKind.wrap IntKind.i64 (s11 - 1))) then some false
                else g1 r0 low1 high2 s10 (IntKind.wrap IntKind.i64 (s11 + 1))
              else none
            else none
          else g1 r0 low1 high2 s10 (IntKind.wrap IntKind.i64 (s11 + 1))
      else none
    else none
  else some true
noncomputable def i_rise_t0 (g1 : List (Int) → Int → Int → Int → Int → Option (Bool)) (l0 : List Int) (low1 : Int) (high2 : Int) : Option Bool :=
  g1 l0 low1 high2 (↑(List.length l0) : Int) 0
theorem i_rise_ts : Tails c_i_rise.pts c_i_rise.round :=
  ⟨fun s => by
    obtain ⟨⟨r0, _⟩, ⟨_, low1, high2, _, s10, s11, _⟩, ⟨_, _, _, _⟩⟩ := s
    refine Tail.eq (Y := fun g => i_rise_t1 (fun r0 low1 high2 s10 s11 => g.1 ((r0, ()), ((), low1, high2, (), s10, s11, ()), ((), (), (), ()))) r0 low1 high2 s10 s11) ?_ (fun g => by kernel_rfl)
    simp only [i_rise_t1]; repeat (first | exact Tail.const _ | exact Tail.here _ | exact Tail.there (Tail.here _) | exact Tail.there (Tail.there (Tail.here _)) | exact Tail.there (Tail.there (Tail.there (Tail.here _))) | exact Tail.there (Tail.there (Tail.there (Tail.there (Tail.here _)))) | exact Tail.there (Tail.there (Tail.there (Tail.there (Tail.there (Tail.here _))))) | apply Tail.cond | (apply Tail.bind; intro _)), trivial⟩
theorem i_rise_hs : ∀ x, Tail c_i_rise.pts (fun g => c_i_rise.start g x) := fun x => by
    obtain ⟨l0, low1, high2, _⟩ := x
    refine Tail.eq (Y := fun g => i_rise_t0 (fun r0 low1 high2 s10 s11 => g.1 ((r0, ()), ((), low1, high2, (), s10, s11, ()), ((), (), (), ()))) l0 low1 high2) ?_ (fun g => by kernel_rfl)
    simp only [i_rise_t0]; repeat (first | exact Tail.const _ | exact Tail.here _ | exact Tail.there (Tail.here _) | exact Tail.there (Tail.there (Tail.here _)) | exact Tail.there (Tail.there (Tail.there (Tail.here _))) | exact Tail.there (Tail.there (Tail.there (Tail.there (Tail.here _)))) | exact Tail.there (Tail.there (Tail.there (Tail.there (Tail.there (Tail.here _))))) | apply Tail.cond | (apply Tail.bind; intro _))
noncomputable def i_rise_L1 (r0 : List (Int)) (low1 : Int) (high2 : Int) (s10 : Int) (s11 : Int) : Option Bool := c_i_rise.L.1 ((r0, ()), ((), low1, high2, (), s10, s11, ()), ((), (), (), ()))
theorem i_rise_u1 (r0 : List (Int)) (low1 : Int) (high2 : Int) (s10 : Int) (s11 : Int) : i_rise_L1 r0 low1 high2 s10 s11 = i_rise_t1 i_rise_L1 r0 low1 high2 s10 s11 :=
  (congrArg (fun g => g.1 ((r0, ()), ((), low1, high2, (), s10, s11, ()), ((), (), (), ()))) (FnCx.L_eq i_rise_ts)).trans (by kernel_rfl)
noncomputable def i_rise (l0 : List Int) (low1 : Int) (high2 : Int) : Option Bool := i_rise_t0 i_rise_L1 l0 low1 high2
theorem i_rise_e (l0 : List Int) (low1 : Int) (high2 : Int) : c_i_rise.start c_i_rise.L (l0, low1, high2, ()) = i_rise l0 low1 high2 := by kernel_rfl
-- NICE tot
noncomputable def i_rise_n (l : List Int) (lo hi : Int) : Bool := rising lo hi l
theorem i_within_inB (x lo hi : Int) : i_within x lo hi = inB lo hi x := by
  unfold i_within inB
  cases h1 : decide (lo ≤ x) <;> simp_all
theorem i_rise_ok (l : List Int) (lo hi : Int) (hb : BdI c_i_rise.ins (l, lo, hi, ())) : i_rise l lo hi = some (i_rise_n l lo hi) :=
  have hm : l.length ≤ maxLen := hb.1.1
  loop_prev (L := fun i => i_rise_L1 l lo hi l.length (i : Int)) (l := l) (p := riseP lo hi)
    (fun i h => by
      simp only [i_rise_u1 l lo hi l.length i, i_rise_t1, rdk_get (k := kint) h, wrapS h hm, i_within_inB]
      by_cases hi0 : i = 0
      · subst hi0
        simp only [if_true, riseP, ltO, Bool.and_true]
        cases inB lo hi l[0] <;> simp [h]
      · have hl : i - 1 < l.length := by omega
        have hg : 0 < i := by omega
        simp only [wrapP h hm hi0, rdk_get (k := kint) hl, if_neg hi0, riseP, List.getElem?_eq_getElem hl, ltO]
        have e1 : ((l[i - 1] : Int) < l[i]) = ¬ (l[i] ≤ l[i - 1]) := by simp
        cases inB lo hi l[i] <;> by_cases hc : l[i] ≤ l[i - 1] <;> simp [h, hl, hg, hc, e1]) (by simp [i_rise_u1 l lo hi l.length l.length, i_rise_t1])
noncomputable def F_i_rise : Ins c_i_rise.ins → Bool := fun x => i_rise_n x.1 x.2.1 x.2.2.1
noncomputable def S_i_rise : FSpec := mkT c_i_rise.env.pre c_i_rise.ins c_i_rise.out c_i_rise.inj F_i_rise
theorem h_i_rise : Cert Tryz.prog 58 S_i_rise := FnCx.certT (c := c_i_rise) F_i_rise (tyOk _ _ _) (spOk ⟨h_i_within, fun _ _ h => h, trivial⟩) (fun _ _ _ _ _ hs => noDr_ok) Tryz.func58 rfl rfl Tryz.ntmps58 (by kernel_rfl) rfl rfl (fun _ => rfl) i_rise_ts i_rise_hs (fun x hb => by
  obtain ⟨l0, low1, high2, _⟩ := x
  exact (i_rise_e l0 low1 high2).trans (i_rise_ok l0 low1 high2 hb))
/-! impl.AreStairs -/
noncomputable def c_i_AreStairs : FnCx := { env := env 25 [(57, S_i_within), (58, S_i_rise)] [], body := bodyOf Tryz.f19, res := [.tmp 2], ins := [.ro kStairs], out := [(kbool, true)], T := Bool, fin := fun r => r.1.1, inj := fun t => ((t, ()), ((), ())), pts := [], fuel := 400, dr := noDr }
noncomputable def i_AreStairs (s0_Steps : Int) (s0_Strides : List Int) (s0_Broken : List Int) : Bool :=
  bif i_within s0_Steps 1 60 then
    bif i_within (↑(List.length s0_Strides) : Int) 1 5 then
      bif i_rise_n s0_Strides 1 9 then i_rise_n s0_Broken 1 (IntKind.wrap IntKind.i64 (s0_Steps - 1)) else false
    else false
  else false
theorem i_AreStairs_e (s0_Steps : Int) (s0_Strides : List Int) (s0_Broken : List Int) : c_i_AreStairs.start c_i_AreStairs.L ((s0_Steps, s0_Strides, s0_Broken), ()) = some (i_AreStairs s0_Steps s0_Strides s0_Broken) := by
  refine Eq.trans (b := (bif i_within s0_Steps 1 60 then bif i_within (↑(List.length s0_Strides) : Int) 1 5 then bif i_rise_n s0_Strides 1 9 then some (i_rise_n s0_Broken 1 (IntKind.wrap IntKind.i64 (s0_Steps - 1))) else some false else some false else some false : Option Bool)) (by kernel_rfl) ?_
  unfold i_AreStairs
  repeat (first | rfl | apply condS)
theorem i_AreStairs_eq (a : Int) (b c : List Int) : i_AreStairs a b c = s_clGood a b c := by
  unfold i_AreStairs s_clGood
  simp only [i_within_inB, s_l1In_inB]
  rfl
noncomputable def F_i_AreStairs : Ins c_i_AreStairs.ins → Bool := fun x => i_AreStairs x.1.1 x.1.2.1 x.1.2.2
noncomputable def S_i_AreStairs : FSpec := mkT c_i_AreStairs.env.pre c_i_AreStairs.ins c_i_AreStairs.out c_i_AreStairs.inj F_i_AreStairs
theorem h_i_AreStairs : Cert Tryz.prog 19 S_i_AreStairs := FnCx.certT (c := c_i_AreStairs) F_i_AreStairs (tyOk _ _ _) (spOk ⟨h_i_within, fun _ _ h => h, ⟨h_i_rise, fun _ _ h => h, trivial⟩⟩) (fun _ _ _ _ _ hs => noDr_ok) Tryz.func19 rfl rfl Tryz.ntmps19 (by kernel_rfl) rfl rfl (fun _ => rfl) trivial (fun x => .inl ⟨c_i_AreStairs.start () x, fun _ => rfl⟩) (fun x hb => by
  obtain ⟨⟨s0_Steps, s0_Strides, s0_Broken⟩, _⟩ := x
  exact i_AreStairs_e s0_Steps s0_Strides s0_Broken)
/-! slices.Index[[]int,int] -/
noncomputable def c_slices_Index_int : FnCx := { env := env 19 [] [], body := bodyOf Tryz.f105, res := [.tmp 4], ins := [.ro kSint, .ro kint], out := [(kint, true)], T := Int, fin := fun r => r.1.1, inj := fun t => ((t, ()), ((), (), ())), pts := [([.inLoop [1, 0, 1, 0, 0], .inBlock 0, .code [1, 1]], Shape.mk [Bs.row kint 3 false] [(0, Ss.one (Cs.sl 0)), (1, Ss.one (Cs.sc kint)), (7, Ss.one (Cs.sc kint)), (8, Ss.one (Cs.sc kint))] [Ss.one (Cs.any), Ss.one (Cs.any)])], fuel := 400, dr := noDr }
noncomputable def slices_Index_int_t1 (g1 : List (Int) → Int → Int → Int → Option (Int)) (r0 : List (Int)) (v1 : Int) (s7 : Int) (s8 : Int) : Option Int :=
  bif decide (s8 < s7) then
    bif decide (0 ≤ s8) then
      bif decide (s8 < (↑(List.length r0) : Int)) then bif v1 == rdk kint r0 s8 then some s8 else g1 r0 v1 s7 (IntKind.wrap IntKind.i64 (s8 + 1))
      else none
    else none
  else some (-1)
noncomputable def slices_Index_int_t0 (g1 : List (Int) → Int → Int → Int → Option (Int)) (s0 : List Int) (v1 : Int) : Option Int :=
  g1 s0 v1 (↑(List.length s0) : Int) 0
theorem slices_Index_int_ts : Tails c_slices_Index_int.pts c_slices_Index_int.round :=
  ⟨fun s => by
    obtain ⟨⟨r0, _⟩, ⟨_, v1, s7, s8, _⟩, ⟨_, _, _⟩⟩ := s
    refine Tail.eq (Y := fun g => slices_Index_int_t1 (fun r0 v1 s7 s8 => g.1 ((r0, ()), ((), v1, s7, s8, ()), ((), (), ()))) r0 v1 s7 s8) ?_ (fun g => by kernel_rfl)
    simp only [slices_Index_int_t1]; repeat (first | exact Tail.const _ | exact Tail.here _ | exact Tail.there (Tail.here _) | exact Tail.there (Tail.there (Tail.here _)) | exact Tail.there (Tail.there (Tail.there (Tail.here _))) | exact Tail.there (Tail.there (Tail.there (Tail.there (Tail.here _)))) | exact Tail.there (Tail.there (Tail.there (Tail.there (Tail.there (Tail.here _))))) | apply Tail.cond | (apply Tail.bind; intro _)), trivial⟩
theorem slices_Index_int_hs : ∀ x, Tail c_slices_Index_int.pts (fun g => c_slices_Index_int.start g x) := fun x => by
    obtain ⟨s0, v1, _⟩ := x
    refine Tail.eq (Y := fun g => slices_Index_int_t0 (fun r0 v1 s7 s8 => g.1 ((r0, ()), ((), v1, s7, s8, ()), ((), (), ()))) s0 v1) ?_ (fun g => by kernel_rfl)
    simp only [slices_Index_int_t0]; repeat (first | exact Tail.const _ | exact Tail.here _ | exact Tail.there (Tail.here _) | exact Tail.there (Tail.there (Tail.here _)) | exact Tail.there (Tail.there (Tail.there (Tail.here _))) | exact Tail.there (Tail.there (Tail.there (Tail.there (Tail.here _)))) | exact Tail.there (Tail.there (Tail.there (Tail.there (Tail.there (Tail.here _))))) | apply Tail.cond | (apply Tail.bind; intro _))
noncomputable def slices_Index_int_L1 (r0 : List (Int)) (v1 : Int) (s7 : Int) (s8 : Int) : Option Int := c_slices_Index_int.L.1 ((r0, ()), ((), v1, s7, s8, ()), ((), (), ()))
theorem slices_Index_int_u1 (r0 : List (Int)) (v1 : Int) (s7 : Int) (s8 : Int) : slices_Index_int_L1 r0 v1 s7 s8 = slices_Index_int_t1 slices_Index_int_L1 r0 v1 s7 s8 :=
  (congrArg (fun g => g.1 ((r0, ()), ((), v1, s7, s8, ()), ((), (), ()))) (FnCx.L_eq slices_Index_int_ts)).trans (by kernel_rfl)
noncomputable def slices_Index_int (s0 : List Int) (v1 : Int) : Option Int := slices_Index_int_t0 slices_Index_int_L1 s0 v1
theorem slices_Index_int_e (s0 : List Int) (v1 : Int) : c_slices_Index_int.start c_slices_Index_int.L (s0, v1, ()) = slices_Index_int s0 v1 := by kernel_rfl
-- NICE tot
noncomputable def slices_Index_int_n (l : List Int) (v : Int) : Int := idxF (fun x => v == x) l 0
theorem slices_Index_int_ok (l : List Int) (v : Int) (hb : BdI c_slices_Index_int.ins (l, v, ())) : slices_Index_int l v = some (slices_Index_int_n l v) :=
  have hm : l.length ≤ maxLen := hb.1.1
  loop_idx (L := fun i => slices_Index_int_L1 l v l.length (i : Int)) (l := l) (p := fun x => v == x)
    (fun i h => by simp only [slices_Index_int_u1 l v l.length i, slices_Index_int_t1, rdk_get (k := kint) h, wrapS h hm]; simp [h]) (by simp [slices_Index_int_u1 l v l.length l.length, slices_Index_int_t1])
noncomputable def F_slices_Index_int : Ins c_slices_Index_int.ins → Int := fun x => slices_Index_int_n x.1 x.2.1
noncomputable def S_slices_Index_int : FSpec := mkT c_slices_Index_int.env.pre c_slices_Index_int.ins c_slices_Index_int.out c_slices_Index_int.inj F_slices_Index_int
theorem h_slices_Index_int : Cert Tryz.prog 105 S_slices_Index_int := FnCx.certT (c := c_slices_Index_int) F_slices_Index_int (tyOk _ _ _) (spOk trivial) (fun _ _ _ _ _ hs => noDr_ok) Tryz.func105 rfl rfl Tryz.ntmps105 (by kernel_rfl) rfl rfl (fun _ => rfl) slices_Index_int_ts slices_Index_int_hs (fun x hb => by
  obtain ⟨s0, v1, _⟩ := x
  exact (slices_Index_int_e s0 v1).trans (slices_Index_int_ok s0 v1 hb))
/-! slices.Contains[[]int,int] -/
noncomputable def c_slices_Contains_int : FnCx := { env := env 9 [(105, S_slices_Index_int)] [], body := bodyOf Tryz.f88, res := [.tmp 4], ins := [.ro kSint, .ro kint], out := [(kbool, true)], T := Bool, fin := fun r => r.1.1, inj := fun t => ((t, ()), ((), (), ())), pts := [], fuel := 400, dr := noDr }
noncomputable def slices_Contains_int (s0 : List Int) (v1 : Int) : Bool :=
  decide (slices_Index_int_n s0 v1 ≥ 0)
theorem slices_Contains_int_e (s0 : List Int) (v1 : Int) : c_slices_Contains_int.start c_slices_Contains_int.L (s0, v1, ()) = some (slices_Contains_int s0 v1) := by kernel_rfl
theorem slices_Contains_int_eq (l : List Int) (v : Int) : slices_Contains_int l v = decide (v ∈ l) := by
  unfold slices_Contains_int slices_Index_int_n
  rw [idxF_any]
  induction l with
  | nil => rfl
  | cons x l ih => rw [List.any_cons, ih]; by_cases h : v = x <;> simp [h]
noncomputable def F_slices_Contains_int : Ins c_slices_Contains_int.ins → Bool := fun x => slices_Contains_int x.1 x.2.1
noncomputable def S_slices_Contains_int : FSpec := mkT c_slices_Contains_int.env.pre c_slices_Contains_int.ins c_slices_Contains_int.out c_slices_Contains_int.inj F_slices_Contains_int
theorem h_slices_Contains_int : Cert Tryz.prog 88 S_slices_Contains_int := FnCx.certT (c := c_slices_Contains_int) F_slices_Contains_int (tyOk _ _ _) (spOk ⟨h_slices_Index_int, fun _ _ h => h, trivial⟩) (fun _ _ _ _ _ hs => noDr_ok) Tryz.func88 rfl rfl Tryz.ntmps88 (by kernel_rfl) rfl rfl (fun _ => rfl) trivial (fun x => .inl ⟨c_slices_Contains_int.start () x, fun _ => rfl⟩) (fun x hb => by
  obtain ⟨s0, v1, _⟩ := x
  exact slices_Contains_int_e s0 v1)
/-! (impl.Stairs).isBroken -/
noncomputable def c_i_Stairs_isBroken : FnCx := { env := env 9 [(88, S_slices_Contains_int)] [], body := bodyOf Tryz.f62, res := [.tmp 4], ins := [.ro kStairs, .ro kint], out := [(kbool, true)], T := Bool, fin := fun r => r.1.1, inj := fun t => ((t, ()), ((), (), ())), pts := [], fuel := 400, dr := noDr }
noncomputable def i_Stairs_isBroken (s0_Steps : Int) (s0_Strides : List Int) (s0_Broken : List Int) (step1 : Int) : Bool :=
  slices_Contains_int s0_Broken step1
theorem i_Stairs_isBroken_e (s0_Steps : Int) (s0_Strides : List Int) (s0_Broken : List Int) (step1 : Int) : c_i_Stairs_isBroken.start c_i_Stairs_isBroken.L ((s0_Steps, s0_Strides, s0_Broken), step1, ()) = some (i_Stairs_isBroken s0_Steps s0_Strides s0_Broken step1) := by kernel_rfl
noncomputable def F_i_Stairs_isBroken : Ins c_i_Stairs_isBroken.ins → Bool := fun x => i_Stairs_isBroken x.1.1 x.1.2.1 x.1.2.2 x.2.1
noncomputable def S_i_Stairs_isBroken : FSpec := mkT c_i_Stairs_isBroken.env.pre c_i_Stairs_isBroken.ins c_i_Stairs_isBroken.out c_i_Stairs_isBroken.inj F_i_Stairs_isBroken
theorem h_i_Stairs_isBroken : Cert Tryz.prog 62 S_i_Stairs_isBroken := FnCx.certT (c := c_i_Stairs_isBroken) F_i_Stairs_isBroken (tyOk _ _ _) (spOk ⟨h_slices_Contains_int, fun _ _ h => h, trivial⟩) (fun _ _ _ _ _ hs => noDr_ok) Tryz.func62 rfl rfl Tryz.ntmps62 (by kernel_rfl) rfl rfl (fun _ => rfl) trivial (fun x => .inl ⟨c_i_Stairs_isBroken.start () x, fun _ => rfl⟩) (fun x hb => by
  obtain ⟨⟨s0_Steps, s0_Strides, s0_Broken⟩, step1, _⟩ := x
  exact i_Stairs_isBroken_e s0_Steps s0_Strides s0_Broken step1)
/-! (impl.Stairs).up -/
noncomputable def c_i_Stairs_up : FnCx := { env := env 55 [(62, S_i_Stairs_isBroken)] [], body := bodyOf Tryz.f38, res := [.tmp 2], ins := [.ro kStairs], out := [(kSint, true)], T := List Int, fin := fun r => r.1.1, inj := fun t => ((t, ()), ((), ())), pts := [([.inLoop [1, 1, 1, 0, 1, 0, 0], .inBlock 0, .code [1, 1, 1, 1]], Shape.mk [Bs.box 24 [Cs.sc kint, Cs.sl 2, Cs.sl 3], Bs.row kint 3 true, Bs.row kint 3 false, Bs.row kint 3 false] [(1, Ss.one (Cs.ptr 0 0)), (3, Ss.one (Cs.sl 1)), (4, Ss.one (Cs.sc kint))] [Ss.one (Cs.any)]), ([.inLoop [1, 1, 1, 0, 1, 0, 0, 1, 0, 0, 1, 0, 0], .inBlock 2, .inBlock 1, .code [1, 1, 1, 0, 1, 0, 0, 1, 1], .inLoop [1, 1, 1, 0, 1, 0, 0], .inBlock 0, .code [1, 1, 1, 1]], Shape.mk [Bs.box 24 [Cs.sc kint, Cs.sl 2, Cs.sl 3], Bs.row kint 3 true, Bs.row kint 3 false, Bs.row kint 3 false] [(1, Ss.one (Cs.ptr 0 0)), (3, Ss.one (Cs.sl 1)), (4, Ss.one (Cs.sc kint)), (23, Ss.one (Cs.sl 2)), (24, Ss.one (Cs.sc kint)), (25, Ss.one (Cs.sc kint))] [Ss.one (Cs.any)])], fuel := 400, dr := evDr (env 55 [(62, S_i_Stairs_isBroken)] []) }
noncomputable def i_Stairs_up_t1 (g1 : Int → List (Int) → List (Int) → List (Int) → Int → Option (List Int)) (g2 : Int → List (Int) → List (Int) → List (Int) → Int → Int → Int → Option (List Int)) (b0_0 : Int) (r1 : List (Int)) (r2 : List (Int)) (r3 : List (Int)) (k4 : Int) : Option (List Int) :=
  bif decide (k4 ≥ 0) then g2 b0_0 r1 r2 r3 k4 (↑(List.length r2) : Int) 0 else some r1
noncomputable def i_Stairs_up_t2 (g1 : Int → List (Int) → List (Int) → List (Int) → Int → Option (List Int)) (g2 : Int → List (Int) → List (Int) → List (Int) → Int → Int → Int → Option (List Int)) (b0_0 : Int) (r1 : List (Int)) (r2 : List (Int)) (r3 : List (Int)) (k4 : Int) (s24 : Int) (s25 : Int) : Option (List Int) :=
  bif decide (s25 < s24) then
    bif decide (0 ≤ s25) then
      bif decide (s25 < (↑(List.length r2) : Int)) then
        bif decide (IntKind.wrap IntKind.i64 (k4 + rdk kint r2 s25) ≤ b0_0) then
          bif !i_Stairs_isBroken b0_0 r2 r3 k4 then
            bif decide (0 ≤ k4) then
              bif decide (k4 < (↑(List.length r1) : Int)) then
                bif decide (0 ≤ IntKind.wrap IntKind.i64 (k4 + rdk kint r2 s25)) then
                  bif decide (IntKind.wrap IntKind.i64 (k4 + rdk kint r2 s25) < (↑(List.length r1) : Int)) then
                    bif decide (0 ≤ k4) then
                      bif decide (k4 < (↑(List.length r1) : Int)) then
                        g2 b0_0
                          (List.set r1 (Int.toNat k4)
                            (IntKind.wrap IntKind.i64
                              (rdk kint r1 k4 + rdk kint r1 (IntKind.wrap IntKind.i64 (k4 + rdk kint r2 s25)))))
                          r2 r3 k4 s24 (IntKind.wrap IntKind.i64 (s25 + 1))
                      else none
                    else none
                  else none
                else none
              else none
            else none
          else g2 b0_0 r1 r2 r3 k4 s24 (IntKind.wrap IntKind.i64 (s25 + 1))
        else g2 b0_0 r1 r2 r3 k4 s24 (IntKind.wrap IntKind.i64 (s25 + 1))
      else none
    else none
  else g1 b0_0 r1 r2 r3 (IntKind.wrap IntKind.i64 (k4 - 1))
noncomputable def i_Stairs_up_t0 (g1 : Int → List (Int) → List (Int) → List (Int) → Int → Option (List Int)) (g2 : Int → List (Int) → List (Int) → List (Int) → Int → Int → Int → Option (List Int)) (s0_Steps : Int) (s0_Strides : List Int) (s0_Broken : List Int) : Option (List Int) :=
  bif IntKind.wrap IntKind.i64 (s0_Steps + 1) == IntKind.wrap IntKind.i64 (s0_Steps + 1) then
    bif decide (0 ≤ IntKind.wrap IntKind.i64 (s0_Steps + 1)) then
      bif decide (IntKind.wrap IntKind.i64 (s0_Steps + 1) ≤ (↑4294967296 : Int)) then
        bif decide (0 ≤ s0_Steps) then
          bif decide (s0_Steps < (↑(List.length (List.replicate (Int.toNat (IntKind.wrap IntKind.i64 (s0_Steps + 1))) (Kd.zero kint))) : Int)) then
            g1 s0_Steps (List.set (List.replicate (Int.toNat (IntKind.wrap IntKind.i64 (s0_Steps + 1))) (Kd.zero kint)) (Int.toNat s0_Steps) 1) s0_Strides
              s0_Broken (IntKind.wrap IntKind.i64 (s0_Steps - 1))
          else none
        else none
      else none
    else none
  else none
theorem i_Stairs_up_ts : Tails c_i_Stairs_up.pts c_i_Stairs_up.round :=
  ⟨fun s => by
    obtain ⟨⟨⟨b0_0, _, _, _⟩, r1, r2, r3, _⟩, ⟨_, _, k4, _⟩, ⟨_, _⟩⟩ := s
    refine Tail.eq (Y := fun g => i_Stairs_up_t1 (fun b0_0 r1 r2 r3 k4 => g.1 (((b0_0, (), (), ()), r1, r2, r3, ()), ((), (), k4, ()), ((), ()))) (fun b0_0 r1 r2 r3 k4 s24 s25 => g.2.1 (((b0_0, (), (), ()), r1, r2, r3, ()), ((), (), k4, (), s24, s25, ()), ((), ()))) b0_0 r1 r2 r3 k4) ?_ (fun g => by kernel_rfl)
    simp only [i_Stairs_up_t1]; repeat (first | exact Tail.const _ | exact Tail.here _ | exact Tail.there (Tail.here _) | exact Tail.there (Tail.there (Tail.here _)) | exact Tail.there (Tail.there (Tail.there (Tail.here _))) | exact Tail.there (Tail.there (Tail.there (Tail.there (Tail.here _)))) | exact Tail.there (Tail.there (Tail.there (Tail.there (Tail.there (Tail.here _))))) | apply Tail.cond | (apply Tail.bind; intro _)),
  fun s => by
    obtain ⟨⟨⟨b0_0, _, _, _⟩, r1, r2, r3, _⟩, ⟨_, _, k4, _, s24, s25, _⟩, ⟨_, _⟩⟩ := s
    refine Tail.eq (Y := fun g => i_Stairs_up_t2 (fun b0_0 r1 r2 r3 k4 => g.1 (((b0_0, (), (), ()), r1, r2, r3, ()), ((), (), k4, ()), ((), ()))) (fun b0_0 r1 r2 r3 k4 s24 s25 => g.2.1 (((b0_0, (), (), ()), r1, r2, r3, ()), ((), (), k4, (), s24, s25, ()), ((), ()))) b0_0 r1 r2 r3 k4 s24 s25) ?_ (fun g => by kernel_rfl)
    simp only [i_Stairs_up_t2]; repeat (first | exact Tail.const _ | exact Tail.here _ | exact Tail.there (Tail.here _) | exact Tail.there (Tail.there (Tail.here _)) | exact Tail.there (Tail.there (Tail.there (Tail.here _))) | exact Tail.there (Tail.there (Tail.there (Tail.there (Tail.here _)))) | exact Tail.there (Tail.there (Tail.there (Tail.there (Tail.there (Tail.here _))))) | apply Tail.cond | (apply Tail.bind; intro _)), trivial⟩
theorem i_Stairs_up_hs : ∀ x, Tail c_i_Stairs_up.pts (fun g => c_i_Stairs_up.start g x) := fun x => by
    obtain ⟨⟨s0_Steps, s0_Strides, s0_Broken⟩, _⟩ := x
    refine Tail.eq (Y := fun g => i_Stairs_up_t0 (fun b0_0 r1 r2 r3 k4 => g.1 (((b0_0, (), (), ()), r1, r2, r3, ()), ((), (), k4, ()), ((), ()))) (fun b0_0 r1 r2 r3 k4 s24 s25 => g.2.1 (((b0_0, (), (), ()), r1, r2, r3, ()), ((), (), k4, (), s24, s25, ()), ((), ()))) s0_Steps s0_Strides s0_Broken) ?_ (fun g => by kernel_rfl)
    simp only [i_Stairs_up_t0]; repeat (first | exact Tail.const _ | exact Tail.here _ | exact Tail.there (Tail.here _) | exact Tail.there (Tail.there (Tail.here _)) | exact Tail.there (Tail.there (Tail.there (Tail.here _))) | exact Tail.there (Tail.there (Tail.there (Tail.there (Tail.here _)))) | exact Tail.there (Tail.there (Tail.there (Tail.there (Tail.there (Tail.here _))))) | apply Tail.cond | (apply Tail.bind; intro _))
noncomputable def i_Stairs_up_L1 (b0_0 : Int) (r1 : List (Int)) (r2 : List (Int)) (r3 : List (Int)) (k4 : Int) : Option (List Int) := c_i_Stairs_up.L.1 (((b0_0, (), (), ()), r1, r2, r3, ()), ((), (), k4, ()), ((), ()))
noncomputable def i_Stairs_up_L2 (b0_0 : Int) (r1 : List (Int)) (r2 : List (Int)) (r3 : List (Int)) (k4 : Int) (s24 : Int) (s25 : Int) : Option (List Int) := c_i_Stairs_up.L.2.1 (((b0_0, (), (), ()), r1, r2, r3, ()), ((), (), k4, (), s24, s25, ()), ((), ()))
theorem i_Stairs_up_u1 (b0_0 : Int) (r1 : List (Int)) (r2 : List (Int)) (r3 : List (Int)) (k4 : Int) : i_Stairs_up_L1 b0_0 r1 r2 r3 k4 = i_Stairs_up_t1 i_Stairs_up_L1 i_Stairs_up_L2 b0_0 r1 r2 r3 k4 :=
  (congrArg (fun g => g.1 (((b0_0, (), (), ()), r1, r2, r3, ()), ((), (), k4, ()), ((), ()))) (FnCx.L_eq i_Stairs_up_ts)).trans (by kernel_rfl)
theorem i_Stairs_up_u2 (b0_0 : Int) (r1 : List (Int)) (r2 : List (Int)) (r3 : List (Int)) (k4 : Int) (s24 : Int) (s25 : Int) : i_Stairs_up_L2 b0_0 r1 r2 r3 k4 s24 s25 = i_Stairs_up_t2 i_Stairs_up_L1 i_Stairs_up_L2 b0_0 r1 r2 r3 k4 s24 s25 :=
  (congrArg (fun g => g.2.1 (((b0_0, (), (), ()), r1, r2, r3, ()), ((), (), k4, (), s24, s25, ()), ((), ()))) (FnCx.L_eq i_Stairs_up_ts)).trans (by kernel_rfl)
noncomputable def i_Stairs_up (s0_Steps : Int) (s0_Strides : List Int) (s0_Broken : List Int) : Option (List Int) := i_Stairs_up_t0 i_Stairs_up_L1 i_Stairs_up_L2 s0_Steps s0_Strides s0_Broken
theorem i_Stairs_up_e (s0_Steps : Int) (s0_Strides : List Int) (s0_Broken : List Int) : c_i_Stairs_up.start c_i_Stairs_up.L ((s0_Steps, s0_Strides, s0_Broken), ()) = i_Stairs_up s0_Steps s0_Strides s0_Broken := by kernel_rfl
noncomputable def F_i_Stairs_up : Ins c_i_Stairs_up.ins → Option (List Int) := fun x => i_Stairs_up x.1.1 x.1.2.1 x.1.2.2
noncomputable def S_i_Stairs_up : FSpec := mkF c_i_Stairs_up.env.pre c_i_Stairs_up.ins c_i_Stairs_up.out c_i_Stairs_up.inj F_i_Stairs_up
theorem h_i_Stairs_up : Cert Tryz.prog 38 S_i_Stairs_up := FnCx.certF (c := c_i_Stairs_up) F_i_Stairs_up (tyOk _ _ _) (spOk ⟨h_i_Stairs_isBroken, fun _ _ h => h, trivial⟩) (fun _ _ _ _ _ hs => evDr_ok (tyOk _ _ _) hs follows) Tryz.func38 rfl rfl Tryz.ntmps38 (by kernel_rfl) rfl rfl (fun _ => rfl) i_Stairs_up_ts i_Stairs_up_hs (fun x t hb ht => by
  obtain ⟨⟨s0_Steps, s0_Strides, s0_Broken⟩, _⟩ := x
  exact (i_Stairs_up_e s0_Steps s0_Strides s0_Broken).trans ht)
/-! impl.counted -/
noncomputable def c_i_counted : FnCx := { env := env 15 [(19, S_i_AreStairs), (38, S_i_Stairs_up)] [], body := bodyOf Tryz.f48, res := [.tmp 2, .tmp 3], ins := [.ro kStairs], out := [(kSint, true), (kbool, true)], T := List Int × Bool, fin := fun r => (r.1.1, r.1.2.1), inj := fun t => ((t.1, t.2, ()), ((), ())), pts := [], fuel := 400, dr := evDr (env 15 [(19, S_i_AreStairs), (38, S_i_Stairs_up)] []) }
noncomputable def i_counted (s0_Steps : Int) (s0_Strides : List Int) (s0_Broken : List Int) : Option (List Int × Bool) :=
  bif !i_AreStairs s0_Steps s0_Strides s0_Broken then some ([], false)
  else
    Option.bind (i_Stairs_up s0_Steps s0_Strides s0_Broken) fun r =>
      bif decide (0 < (↑(List.length r) : Int)) then some (r, decide (rdk kint r 0 ≤ 1000000000000000)) else none
theorem i_counted_e (s0_Steps : Int) (s0_Strides : List Int) (s0_Broken : List Int) : c_i_counted.start c_i_counted.L ((s0_Steps, s0_Strides, s0_Broken), ()) = i_counted s0_Steps s0_Strides s0_Broken := by kernel_rfl
noncomputable def F_i_counted : Ins c_i_counted.ins → Option (List Int × Bool) := fun x => i_counted x.1.1 x.1.2.1 x.1.2.2
noncomputable def S_i_counted : FSpec := mkF c_i_counted.env.pre c_i_counted.ins c_i_counted.out c_i_counted.inj F_i_counted
theorem h_i_counted : Cert Tryz.prog 48 S_i_counted := FnCx.certF (c := c_i_counted) F_i_counted (tyOk _ _ _) (spOk ⟨h_i_AreStairs, fun _ _ h => h, ⟨h_i_Stairs_up, fun _ _ h => h, trivial⟩⟩) (fun _ _ _ _ _ hs => evDr_ok (tyOk _ _ _) hs follows) Tryz.func48 rfl rfl Tryz.ntmps48 (by kernel_rfl) rfl rfl (fun _ => rfl) trivial (fun x => .inl ⟨c_i_counted.start () x, fun _ => rfl⟩) (fun x t hb ht => by
  obtain ⟨⟨s0_Steps, s0_Strides, s0_Broken⟩, _⟩ := x
  exact (i_counted_e s0_Steps s0_Strides s0_Broken).trans ht)
/-! impl.CountClimbs -/
noncomputable def c_i_CountClimbs : FnCx := { env := env 16 [(48, S_i_counted)] [], body := bodyOf Tryz.f24, res := [.tmp 2, .tmp 3], ins := [.ro kStairs], out := [(kint, true), (kbool, true)], T := Int × Bool, fin := fun r => (r.1.1, r.1.2.1), inj := fun t => ((t.1, t.2, ()), ((), ())), pts := [], fuel := 400, dr := noDr }
noncomputable def i_CountClimbs (s0_Steps : Int) (s0_Strides : List Int) (s0_Broken : List Int) : Option (Int × Bool) :=
  Option.bind (i_counted s0_Steps s0_Strides s0_Broken) fun r =>
    bif !Prod.snd r then some (0, false)
    else bif decide (0 < (↑(List.length (Prod.fst r)) : Int)) then some (rdk kint (Prod.fst r) 0, true) else none
theorem i_CountClimbs_e (s0_Steps : Int) (s0_Strides : List Int) (s0_Broken : List Int) : c_i_CountClimbs.start c_i_CountClimbs.L ((s0_Steps, s0_Strides, s0_Broken), ()) = i_CountClimbs s0_Steps s0_Strides s0_Broken := by kernel_rfl
noncomputable def F_i_CountClimbs : Ins c_i_CountClimbs.ins → Option (Int × Bool) := fun x => i_CountClimbs x.1.1 x.1.2.1 x.1.2.2
noncomputable def S_i_CountClimbs : FSpec := mkF c_i_CountClimbs.env.pre c_i_CountClimbs.ins c_i_CountClimbs.out c_i_CountClimbs.inj F_i_CountClimbs
theorem h_i_CountClimbs : Cert Tryz.prog 24 S_i_CountClimbs := FnCx.certF (c := c_i_CountClimbs) F_i_CountClimbs (tyOk _ _ _) (spOk ⟨h_i_counted, fun _ _ h => h, trivial⟩) (fun _ _ _ _ _ hs => noDr_ok) Tryz.func24 rfl rfl Tryz.ntmps24 (by kernel_rfl) rfl rfl (fun _ => rfl) trivial (fun x => .inl ⟨c_i_CountClimbs.start () x, fun _ => rfl⟩) (fun x t hb ht => by
  obtain ⟨⟨s0_Steps, s0_Strides, s0_Broken⟩, _⟩ := x
  exact (i_CountClimbs_e s0_Steps s0_Strides s0_Broken).trans ht)
/-! spec.l1Has -/
noncomputable def c_s_l1Has : FnCx := { env := env 17 [] [], body := bodyOf Tryz.f65, res := [.tmp 4], ins := [.ro kSint, .ro kint], out := [(kbool, true)], T := Bool, fin := fun r => r.1.1, inj := fun t => ((t, ()), ((), (), ())), pts := [([.inLoop [1, 0, 1, 0, 0], .inBlock 0, .code [1, 1]], Shape.mk [Bs.row kint 3 false] [(1, Ss.one (Cs.sc kint)), (7, Ss.one (Cs.sl 0)), (8, Ss.one (Cs.sc kint)), (9, Ss.one (Cs.sc kint))] [Ss.one (Cs.any), Ss.one (Cs.any)])], fuel := 400, dr := noDr }
noncomputable def s_l1Has_t1 (g1 : List (Int) → Int → Int → Int → Option (Bool)) (r0 : List (Int)) (n1 : Int) (s8 : Int) (s9 : Int) : Option Bool :=
  bif decide (s9 < s8) then
    bif decide (0 ≤ s9) then
      bif decide (s9 < (↑(List.length r0) : Int)) then
        bif rdk kint r0 s9 == n1 then some true else g1 r0 n1 s8 (IntKind.wrap IntKind.i64 (s9 + 1))
      else none
    else none
  else some false
noncomputable def s_l1Has_t0 (g1 : List (Int) → Int → Int → Int → Option (Bool)) (l0 : List Int) (n1 : Int) : Option Bool :=
  g1 l0 n1 (↑(List.length l0) : Int) 0
theorem s_l1Has_ts : Tails c_s_l1Has.pts c_s_l1Has.round :=
  ⟨fun s => by
    obtain ⟨⟨r0, _⟩, ⟨n1, _, s8, s9, _⟩, ⟨_, _, _⟩⟩ := s
    refine Tail.eq (Y := fun g => s_l1Has_t1 (fun r0 n1 s8 s9 => g.1 ((r0, ()), (n1, (), s8, s9, ()), ((), (), ()))) r0 n1 s8 s9) ?_ (fun g => by kernel_rfl)
    simp only [s_l1Has_t1]; repeat (first | exact Tail.const _ | exact Tail.here _ | exact Tail.there (Tail.here _) | exact Tail.there (Tail.there (Tail.here _)) | exact Tail.there (Tail.there (Tail.there (Tail.here _))) | exact Tail.there (Tail.there (Tail.there (Tail.there (Tail.here _)))) | exact Tail.there (Tail.there (Tail.there (Tail.there (Tail.there (Tail.here _))))) | apply Tail.cond | (apply Tail.bind; intro _)), trivial⟩
theorem s_l1Has_hs : ∀ x, Tail c_s_l1Has.pts (fun g => c_s_l1Has.start g x) := fun x => by
    obtain ⟨l0, n1, _⟩ := x
    refine Tail.eq (Y := fun g => s_l1Has_t0 (fun r0 n1 s8 s9 => g.1 ((r0, ()), (n1, (), s8, s9, ()), ((), (), ()))) l0 n1) ?_ (fun g => by kernel_rfl)
    simp only [s_l1Has_t0]; repeat (first | exact Tail.const _ | exact Tail.here _ | exact Tail.there (Tail.here _) | exact Tail.there (Tail.there (Tail.here _)) | exact Tail.there (Tail.there (Tail.there (Tail.here _))) | exact Tail.there (Tail.there (Tail.there (Tail.there (Tail.here _)))) | exact Tail.there (Tail.there (Tail.there (Tail.there (Tail.there (Tail.here _))))) | apply Tail.cond | (apply Tail.bind; intro _))
noncomputable def s_l1Has_L1 (r0 : List (Int)) (n1 : Int) (s8 : Int) (s9 : Int) : Option Bool := c_s_l1Has.L.1 ((r0, ()), (n1, (), s8, s9, ()), ((), (), ()))
theorem s_l1Has_u1 (r0 : List (Int)) (n1 : Int) (s8 : Int) (s9 : Int) : s_l1Has_L1 r0 n1 s8 s9 = s_l1Has_t1 s_l1Has_L1 r0 n1 s8 s9 :=
  (congrArg (fun g => g.1 ((r0, ()), (n1, (), s8, s9, ()), ((), (), ()))) (FnCx.L_eq s_l1Has_ts)).trans (by kernel_rfl)
noncomputable def s_l1Has (l0 : List Int) (n1 : Int) : Option Bool := s_l1Has_t0 s_l1Has_L1 l0 n1
theorem s_l1Has_e (l0 : List Int) (n1 : Int) : c_s_l1Has.start c_s_l1Has.L (l0, n1, ()) = s_l1Has l0 n1 := by kernel_rfl
-- NICE tot
noncomputable def s_l1Has_n (l : List Int) (v : Int) : Bool := decide (v ∈ l)
theorem s_l1Has_ok (l : List Int) (v : Int) (hb : BdI c_s_l1Has.ins (l, v, ())) : s_l1Has l v = some (s_l1Has_n l v) := by
  have hm : l.length ≤ maxLen := hb.1.1
  have e := loop_any (L := fun i => s_l1Has_L1 l v l.length (i : Int)) (l := l) (p := fun x => x == v) (a := true) (b := false)
    (fun i h => by simp only [s_l1Has_u1 l v l.length i, s_l1Has_t1, rdk_get (k := kint) h, wrapS h hm]; simp [h]) (by simp [s_l1Has_u1 l v l.length l.length, s_l1Has_t1])
  refine Eq.trans e (congrArg some ?_)
  unfold s_l1Has_n
  clear e hb hm
  induction l with
  | nil => rfl
  | cons x l ih =>
    rw [List.any_cons]
    by_cases h : x = v
    · simp [h]
    · have h' : ¬ v = x := fun e => h e.symm
      simp only [List.mem_cons, h', false_or] at ih ⊢
      rw [← ih]
      simp [h]
noncomputable def F_s_l1Has : Ins c_s_l1Has.ins → Bool := fun x => s_l1Has_n x.1 x.2.1
noncomputable def S_s_l1Has : FSpec := mkT c_s_l1Has.env.pre c_s_l1Has.ins c_s_l1Has.out c_s_l1Has.inj F_s_l1Has
theorem h_s_l1Has : Cert Tryz.prog 65 S_s_l1Has := FnCx.certT (c := c_s_l1Has) F_s_l1Has (tyOk _ _ _) (spOk trivial) (fun _ _ _ _ _ hs => noDr_ok) Tryz.func65 rfl rfl Tryz.ntmps65 (by kernel_rfl) rfl rfl (fun _ => rfl) s_l1Has_ts s_l1Has_hs (fun x hb => by
  obtain ⟨l0, n1, _⟩ := x
  exact (s_l1Has_e l0 n1).trans (s_l1Has_ok l0 n1 hb))
/-! spec.clStands -/
noncomputable def c_s_clStands : FnCx := { env := env 16 [(64, S_s_l1In), (65, S_s_l1Has)] [], body := bodyOf Tryz.f43, res := [.tmp 4], ins := [.ro kStairs, .ro kint], out := [(kbool, true)], T := Bool, fin := fun r => r.1.1, inj := fun t => ((t, ()), ((), (), ())), pts := [], fuel := 400, dr := noDr }
noncomputable def s_clStands (s0_Steps : Int) (s0_Strides : List Int) (s0_Broken : List Int) (step1 : Int) : Bool :=
  bif s_l1In step1 0 s0_Steps then !s_l1Has_n s0_Broken step1 else false
theorem s_clStands_e (s0_Steps : Int) (s0_Strides : List Int) (s0_Broken : List Int) (step1 : Int) : c_s_clStands.start c_s_clStands.L ((s0_Steps, s0_Strides, s0_Broken), step1, ()) = some (s_clStands s0_Steps s0_Strides s0_Broken step1) := by
  refine Eq.trans (b := (bif s_l1In step1 0 s0_Steps then some !s_l1Has_n s0_Broken step1 else some false : Option Bool)) (by kernel_rfl) ?_
  unfold s_clStands
  repeat (first | rfl | apply condS)
noncomputable def F_s_clStands : Ins c_s_clStands.ins → Bool := fun x => s_clStands x.1.1 x.1.2.1 x.1.2.2 x.2.1
noncomputable def S_s_clStands : FSpec := mkT c_s_clStands.env.pre c_s_clStands.ins c_s_clStands.out c_s_clStands.inj F_s_clStands
theorem h_s_clStands : Cert Tryz.prog 43 S_s_clStands := FnCx.certT (c := c_s_clStands) F_s_clStands (tyOk _ _ _) (spOk ⟨h_s_l1In, fun _ _ h => h, ⟨h_s_l1Has, fun _ _ h => h, trivial⟩⟩) (fun _ _ _ _ _ hs => noDr_ok) Tryz.func43 rfl rfl Tryz.ntmps43 (by kernel_rfl) rfl rfl (fun _ => rfl) trivial (fun x => .inl ⟨c_s_clStands.start () x, fun _ => rfl⟩) (fun x hb => by
  obtain ⟨⟨s0_Steps, s0_Strides, s0_Broken⟩, step1, _⟩ := x
  exact s_clStands_e s0_Steps s0_Strides s0_Broken step1)
/-! spec.l1Least -/
noncomputable def c_s_l1Least : FnCx := { env := env 10 [] [], body := bodyOf Tryz.f78, res := [.tmp 4], ins := [.ro kint, .ro kint], out := [(kint, true)], T := Int, fin := fun r => r.1.1, inj := fun t => ((t, ()), ((), (), ())), pts := [], fuel := 400, dr := noDr }
noncomputable def s_l1Least (a0 : Int) (b1 : Int) : Int :=
  bif decide (a0 < b1) then a0 else b1
theorem s_l1Least_e (a0 : Int) (b1 : Int) : c_s_l1Least.start c_s_l1Least.L (a0, b1, ()) = some (s_l1Least a0 b1) := by
  refine Eq.trans (b := (bif decide (a0 < b1) then some a0 else some b1 : Option Int)) (by kernel_rfl) ?_
  unfold s_l1Least
  repeat (first | rfl | apply condS)
noncomputable def F_s_l1Least : Ins c_s_l1Least.ins → Int := fun x => s_l1Least x.1 x.2.1
noncomputable def S_s_l1Least : FSpec := mkT c_s_l1Least.env.pre c_s_l1Least.ins c_s_l1Least.out c_s_l1Least.inj F_s_l1Least
theorem h_s_l1Least : Cert Tryz.prog 78 S_s_l1Least := FnCx.certT (c := c_s_l1Least) F_s_l1Least (tyOk _ _ _) (spOk trivial) (fun _ _ _ _ _ hs => noDr_ok) Tryz.func78 rfl rfl Tryz.ntmps78 (by kernel_rfl) rfl rfl (fun _ => rfl) trivial (fun x => .inl ⟨c_s_l1Least.start () x, fun _ => rfl⟩) (fun x hb => by
  obtain ⟨a0, b1, _⟩ := x
  exact s_l1Least_e a0 b1)
/-! spec.clWays -/
noncomputable def c_s_clWays : FnCx := { env := env 56 [(43, S_s_clStands), (78, S_s_l1Least)] [], body := bodyOf Tryz.f42, res := [.tmp 2], ins := [.ro kStairs], out := [(kSint, true)], T := List Int, fin := fun r => r.1.1, inj := fun t => ((t, ()), ((), ())), pts := [([.inLoop [1, 1, 1, 0, 1, 0, 0], .inBlock 0, .code [1, 1, 1, 1]], Shape.mk [Bs.box 24 [Cs.sc kint, Cs.sl 2, Cs.sl 3], Bs.row kint 3 true, Bs.row kint 3 false, Bs.row kint 3 false] [(1, Ss.one (Cs.ptr 0 0)), (3, Ss.one (Cs.sl 1)), (4, Ss.one (Cs.sc kint))] [Ss.one (Cs.any)]), ([.inLoop [1, 1, 1, 0, 1, 0, 0, 1, 0, 0, 1, 1, 0, 0], .inBlock 2, .inBlock 1, .code [1, 1, 1, 0, 1, 0, 0, 1, 1], .inLoop [1, 1, 1, 0, 1, 0, 0], .inBlock 0, .code [1, 1, 1, 1]], Shape.mk [Bs.box 24 [Cs.sc kint, Cs.sl 2, Cs.sl 3], Bs.row kint 3 true, Bs.row kint 3 false, Bs.row kint 3 false] [(1, Ss.one (Cs.ptr 0 0)), (3, Ss.one (Cs.sl 1)), (4, Ss.one (Cs.sc kint)), (27, Ss.one (Cs.sl 2)), (28, Ss.one (Cs.sc kint)), (29, Ss.one (Cs.sc kint))] [Ss.one (Cs.any)])], fuel := 400, dr := evDr (env 56 [(43, S_s_clStands), (78, S_s_l1Least)] []) }
noncomputable def s_clWays_t1 (g1 : Int → List (Int) → List (Int) → List (Int) → Int → Option (List Int)) (g2 : Int → List (Int) → List (Int) → List (Int) → Int → Int → Int → Option (List Int)) (b0_0 : Int) (r1 : List (Int)) (r2 : List (Int)) (r3 : List (Int)) (step4 : Int) : Option (List Int) :=
  bif decide (step4 ≥ 0) then
    bif !s_clStands b0_0 r2 r3 step4 then g1 b0_0 r1 r2 r3 (IntKind.wrap IntKind.i64 (step4 - 1)) else g2 b0_0 r1 r2 r3 step4 (↑(List.length r2) : Int) 0
  else some r1
noncomputable def s_clWays_t2 (g1 : Int → List (Int) → List (Int) → List (Int) → Int → Option (List Int)) (g2 : Int → List (Int) → List (Int) → List (Int) → Int → Int → Int → Option (List Int)) (b0_0 : Int) (r1 : List (Int)) (r2 : List (Int)) (r3 : List (Int)) (step4 : Int) (s28 : Int) (s29 : Int) : Option (List Int) :=
  bif decide (s29 < s28) then
    bif decide (0 ≤ s29) then
      bif decide (s29 < (↑(List.length r2) : Int)) then
        bif decide (IntKind.wrap IntKind.i64 (step4 + rdk kint r2 s29) ≤ b0_0) then
          bif decide (0 ≤ step4) then
            bif decide (step4 < (↑(List.length r1) : Int)) then
              bif decide (0 ≤ IntKind.wrap IntKind.i64 (step4 + rdk kint r2 s29)) then
                bif decide (IntKind.wrap IntKind.i64 (step4 + rdk kint r2 s29) < (↑(List.length r1) : Int)) then
                  bif decide (0 ≤ step4) then
                    bif decide (step4 < (↑(List.length r1) : Int)) then
                      g2 b0_0
                        (List.set r1 (Int.toNat step4)
                          (s_l1Least
                            (IntKind.wrap IntKind.i64
                              (rdk kint r1 step4 +
                                rdk kint r1 (IntKind.wrap IntKind.i64 (step4 + rdk kint r2 s29))))
                            1000000000000001))
                        r2 r3 step4 s28 (IntKind.wrap IntKind.i64 (s29 + 1))
                    else none
                  else none
                else none
              else none
            else none
          else none
        else g2 b0_0 r1 r2 r3 step4 s28 (IntKind.wrap IntKind.i64 (s29 + 1))
      else none
    else none
  else g1 b0_0 r1 r2 r3 (IntKind.wrap IntKind.i64 (step4 - 1))
noncomputable def s_clWays_t0 (g1 : Int → List (Int) → List (Int) → List (Int) → Int → Option (List Int)) (g2 : Int → List (Int) → List (Int) → List (Int) → Int → Int → Int → Option (List Int)) (s0_Steps : Int) (s0_Strides : List Int) (s0_Broken : List Int) : Option (List Int) :=
  bif IntKind.wrap IntKind.i64 (s0_Steps + 1) == IntKind.wrap IntKind.i64 (s0_Steps + 1) then
    bif decide (0 ≤ IntKind.wrap IntKind.i64 (s0_Steps + 1)) then
      bif decide (IntKind.wrap IntKind.i64 (s0_Steps + 1) ≤ (↑4294967296 : Int)) then
        bif decide (0 ≤ s0_Steps) then
          bif decide (s0_Steps < (↑(List.length (List.replicate (Int.toNat (IntKind.wrap IntKind.i64 (s0_Steps + 1))) (Kd.zero kint))) : Int)) then
            g1 s0_Steps (List.set (List.replicate (Int.toNat (IntKind.wrap IntKind.i64 (s0_Steps + 1))) (Kd.zero kint)) (Int.toNat s0_Steps) 1) s0_Strides
              s0_Broken (IntKind.wrap IntKind.i64 (s0_Steps - 1))
          else none
        else none
      else none
    else none
  else none
theorem s_clWays_ts : Tails c_s_clWays.pts c_s_clWays.round :=
  ⟨fun s => by
    obtain ⟨⟨⟨b0_0, _, _, _⟩, r1, r2, r3, _⟩, ⟨_, _, step4, _⟩, ⟨_, _⟩⟩ := s
    refine Tail.eq (Y := fun g => s_clWays_t1 (fun b0_0 r1 r2 r3 step4 => g.1 (((b0_0, (), (), ()), r1, r2, r3, ()), ((), (), step4, ()), ((), ()))) (fun b0_0 r1 r2 r3 step4 s28 s29 => g.2.1 (((b0_0, (), (), ()), r1, r2, r3, ()), ((), (), step4, (), s28, s29, ()), ((), ()))) b0_0 r1 r2 r3 step4) ?_ (fun g => by kernel_rfl)
    simp only [s_clWays_t1]; repeat (first | exact Tail.const _ | exact Tail.here _ | exact Tail.there (Tail.here _) | exact Tail.there (Tail.there (Tail.here _)) | exact Tail.there (Tail.there (Tail.there (Tail.here _))) | exact Tail.there (Tail.there (Tail.there (Tail.there (Tail.here _)))) | exact Tail.there (Tail.there (Tail.there (Tail.there (Tail.there (Tail.here _))))) | apply Tail.cond | (apply Tail.bind; intro _)),
  fun s => by
    obtain ⟨⟨⟨b0_0, _, _, _⟩, r1, r2, r3, _⟩, ⟨_, _, step4, _, s28, s29, _⟩, ⟨_, _⟩⟩ := s
    refine Tail.eq (Y := fun g => s_clWays_t2 (fun b0_0 r1 r2 r3 step4 => g.1 (((b0_0, (), (), ()), r1, r2, r3, ()), ((), (), step4, ()), ((), ()))) (fun b0_0 r1 r2 r3 step4 s28 s29 => g.2.1 (((b0_0, (), (), ()), r1, r2, r3, ()), ((), (), step4, (), s28, s29, ()), ((), ()))) b0_0 r1 r2 r3 step4 s28 s29) ?_ (fun g => by kernel_rfl)
    simp only [s_clWays_t2]; repeat (first | exact Tail.const _ | exact Tail.here _ | exact Tail.there (Tail.here _) | exact Tail.there (Tail.there (Tail.here _)) | exact Tail.there (Tail.there (Tail.there (Tail.here _))) | exact Tail.there (Tail.there (Tail.there (Tail.there (Tail.here _)))) | exact Tail.there (Tail.there (Tail.there (Tail.there (Tail.there (Tail.here _))))) | apply Tail.cond | (apply Tail.bind; intro _)), trivial⟩
theorem s_clWays_hs : ∀ x, Tail c_s_clWays.pts (fun g => c_s_clWays.start g x) := fun x => by
    obtain ⟨⟨s0_Steps, s0_Strides, s0_Broken⟩, _⟩ := x
    refine Tail.eq (Y := fun g => s_clWays_t0 (fun b0_0 r1 r2 r3 step4 => g.1 (((b0_0, (), (), ()), r1, r2, r3, ()), ((), (), step4, ()), ((), ()))) (fun b0_0 r1 r2 r3 step4 s28 s29 => g.2.1 (((b0_0, (), (), ()), r1, r2, r3, ()), ((), (), step4, (), s28, s29, ()), ((), ()))) s0_Steps s0_Strides s0_Broken) ?_ (fun g => by kernel_rfl)
    simp only [s_clWays_t0]; repeat (first | exact Tail.const _ | exact Tail.here _ | exact Tail.there (Tail.here _) | exact Tail.there (Tail.there (Tail.here _)) | exact Tail.there (Tail.there (Tail.there (Tail.here _))) | exact Tail.there (Tail.there (Tail.there (Tail.there (Tail.here _)))) | exact Tail.there (Tail.there (Tail.there (Tail.there (Tail.there (Tail.here _))))) | apply Tail.cond | (apply Tail.bind; intro _))
noncomputable def s_clWays_L1 (b0_0 : Int) (r1 : List (Int)) (r2 : List (Int)) (r3 : List (Int)) (step4 : Int) : Option (List Int) := c_s_clWays.L.1 (((b0_0, (), (), ()), r1, r2, r3, ()), ((), (), step4, ()), ((), ()))
noncomputable def s_clWays_L2 (b0_0 : Int) (r1 : List (Int)) (r2 : List (Int)) (r3 : List (Int)) (step4 : Int) (s28 : Int) (s29 : Int) : Option (List Int) := c_s_clWays.L.2.1 (((b0_0, (), (), ()), r1, r2, r3, ()), ((), (), step4, (), s28, s29, ()), ((), ()))
theorem s_clWays_u1 (b0_0 : Int) (r1 : List (Int)) (r2 : List (Int)) (r3 : List (Int)) (step4 : Int) : s_clWays_L1 b0_0 r1 r2 r3 step4 = s_clWays_t1 s_clWays_L1 s_clWays_L2 b0_0 r1 r2 r3 step4 :=
  (congrArg (fun g => g.1 (((b0_0, (), (), ()), r1, r2, r3, ()), ((), (), step4, ()), ((), ()))) (FnCx.L_eq s_clWays_ts)).trans (by kernel_rfl)
theorem s_clWays_u2 (b0_0 : Int) (r1 : List (Int)) (r2 : List (Int)) (r3 : List (Int)) (step4 : Int) (s28 : Int) (s29 : Int) : s_clWays_L2 b0_0 r1 r2 r3 step4 s28 s29 = s_clWays_t2 s_clWays_L1 s_clWays_L2 b0_0 r1 r2 r3 step4 s28 s29 :=
  (congrArg (fun g => g.2.1 (((b0_0, (), (), ()), r1, r2, r3, ()), ((), (), step4, (), s28, s29, ()), ((), ()))) (FnCx.L_eq s_clWays_ts)).trans (by kernel_rfl)
noncomputable def s_clWays (s0_Steps : Int) (s0_Strides : List Int) (s0_Broken : List Int) : Option (List Int) := s_clWays_t0 s_clWays_L1 s_clWays_L2 s0_Steps s0_Strides s0_Broken
theorem s_clWays_e (s0_Steps : Int) (s0_Strides : List Int) (s0_Broken : List Int) : c_s_clWays.start c_s_clWays.L ((s0_Steps, s0_Strides, s0_Broken), ()) = s_clWays s0_Steps s0_Strides s0_Broken := by kernel_rfl
noncomputable def F_s_clWays : Ins c_s_clWays.ins → Option (List Int) := fun x => s_clWays x.1.1 x.1.2.1 x.1.2.2
noncomputable def S_s_clWays : FSpec := mkF c_s_clWays.env.pre c_s_clWays.ins c_s_clWays.out c_s_clWays.inj F_s_clWays
theorem h_s_clWays : Cert Tryz.prog 42 S_s_clWays := FnCx.certF (c := c_s_clWays) F_s_clWays (tyOk _ _ _) (spOk ⟨h_s_clStands, fun _ _ h => h, ⟨h_s_l1Least, fun _ _ h => h, trivial⟩⟩) (fun _ _ _ _ _ hs => evDr_ok (tyOk _ _ _) hs follows) Tryz.func42 rfl rfl Tryz.ntmps42 (by kernel_rfl) rfl rfl (fun _ => rfl) s_clWays_ts s_clWays_hs (fun x t hb ht => by
  obtain ⟨⟨s0_Steps, s0_Strides, s0_Broken⟩, _⟩ := x
  exact (s_clWays_e s0_Steps s0_Strides s0_Broken).trans ht)
/-! spec.clCounted -/
noncomputable def c_s_clCounted : FnCx := { env := env 12 [(41, S_s_clGood), (42, S_s_clWays)] [], body := bodyOf Tryz.f49, res := [.tmp 2], ins := [.ro kStairs], out := [(kbool, true)], T := Bool, fin := fun r => r.1.1, inj := fun t => ((t, ()), ((), ())), pts := [], fuel := 400, dr := noDr }
noncomputable def s_clCounted (s0_Steps : Int) (s0_Strides : List Int) (s0_Broken : List Int) : Option Bool :=
  bif s_clGood s0_Steps s0_Strides s0_Broken then
    Option.bind (s_clWays s0_Steps s0_Strides s0_Broken) fun r =>
      bif decide (0 < (↑(List.length r) : Int)) then some (decide (rdk kint r 0 ≤ 1000000000000000)) else none
  else some false
theorem s_clCounted_e (s0_Steps : Int) (s0_Strides : List Int) (s0_Broken : List Int) : c_s_clCounted.start c_s_clCounted.L ((s0_Steps, s0_Strides, s0_Broken), ()) = s_clCounted s0_Steps s0_Strides s0_Broken := by kernel_rfl
noncomputable def F_s_clCounted : Ins c_s_clCounted.ins → Option Bool := fun x => s_clCounted x.1.1 x.1.2.1 x.1.2.2
noncomputable def S_s_clCounted : FSpec := mkF c_s_clCounted.env.pre c_s_clCounted.ins c_s_clCounted.out c_s_clCounted.inj F_s_clCounted
theorem h_s_clCounted : Cert Tryz.prog 49 S_s_clCounted := FnCx.certF (c := c_s_clCounted) F_s_clCounted (tyOk _ _ _) (spOk ⟨h_s_clGood, fun _ _ h => h, ⟨h_s_clWays, fun _ _ h => h, trivial⟩⟩) (fun _ _ _ _ _ hs => noDr_ok) Tryz.func49 rfl rfl Tryz.ntmps49 (by kernel_rfl) rfl rfl (fun _ => rfl) trivial (fun x => .inl ⟨c_s_clCounted.start () x, fun _ => rfl⟩) (fun x t hb ht => by
  obtain ⟨⟨s0_Steps, s0_Strides, s0_Broken⟩, _⟩ := x
  exact (s_clCounted_e s0_Steps s0_Strides s0_Broken).trans ht)
/-! (impl.Stairs).down -/
noncomputable def c_i_Stairs_down : FnCx := { env := env 49 [(62, S_i_Stairs_isBroken)] [], body := bodyOf Tryz.f37, res := [.tmp 2], ins := [.ro kStairs], out := [(kSint, true)], T := List Int, fin := fun r => r.1.1, inj := fun t => ((t, ()), ((), ())), pts := [([.inLoop [1, 1, 1, 0, 1, 0, 0], .inBlock 0, .code [1, 1, 1, 1]], Shape.mk [Bs.box 24 [Cs.sc kint, Cs.sl 2, Cs.sl 3], Bs.row kint 3 true, Bs.row kint 3 false, Bs.row kint 3 false] [(1, Ss.one (Cs.ptr 0 0)), (3, Ss.one (Cs.sl 1)), (4, Ss.one (Cs.sc kint))] [Ss.one (Cs.any)]), ([.inLoop [1, 1, 1, 0, 1, 0, 0, 1, 0, 0, 1, 0, 0], .inBlock 2, .inBlock 1, .code [1, 1, 1, 0, 1, 0, 0, 1, 1], .inLoop [1, 1, 1, 0, 1, 0, 0], .inBlock 0, .code [1, 1, 1, 1]], Shape.mk [Bs.box 24 [Cs.sc kint, Cs.sl 2, Cs.sl 3], Bs.row kint 3 true, Bs.row kint 3 false, Bs.row kint 3 false] [(1, Ss.one (Cs.ptr 0 0)), (3, Ss.one (Cs.sl 1)), (4, Ss.one (Cs.sc kint)), (20, Ss.one (Cs.sl 2)), (21, Ss.one (Cs.sc kint)), (22, Ss.one (Cs.sc kint))] [Ss.one (Cs.any)])], fuel := 400, dr := evDr (env 49 [(62, S_i_Stairs_isBroken)] []) }
noncomputable def i_Stairs_down_t1 (g1 : Int → List (Int) → List (Int) → List (Int) → Int → Option (List Int)) (g2 : Int → List (Int) → List (Int) → List (Int) → Int → Int → Int → Option (List Int)) (b0_0 : Int) (r1 : List (Int)) (r2 : List (Int)) (r3 : List (Int)) (k4 : Int) : Option (List Int) :=
  bif decide (k4 ≤ b0_0) then g2 b0_0 r1 r2 r3 k4 (↑(List.length r2) : Int) 0 else some r1
noncomputable def i_Stairs_down_t2 (g1 : Int → List (Int) → List (Int) → List (Int) → Int → Option (List Int)) (g2 : Int → List (Int) → List (Int) → List (Int) → Int → Int → Int → Option (List Int)) (b0_0 : Int) (r1 : List (Int)) (r2 : List (Int)) (r3 : List (Int)) (k4 : Int) (s21 : Int) (s22 : Int) : Option (List Int) :=
  bif decide (s22 < s21) then
    bif decide (0 ≤ s22) then
      bif decide (s22 < (↑(List.length r2) : Int)) then
        bif decide (rdk kint r2 s22 ≤ k4) then
          bif !i_Stairs_isBroken b0_0 r2 r3 k4 then
            bif decide (0 ≤ k4) then
              bif decide (k4 < (↑(List.length r1) : Int)) then
                bif decide (0 ≤ IntKind.wrap IntKind.i64 (k4 - rdk kint r2 s22)) then
                  bif decide (IntKind.wrap IntKind.i64 (k4 - rdk kint r2 s22) < (↑(List.length r1) : Int)) then
                    bif decide (0 ≤ k4) then
                      bif decide (k4 < (↑(List.length r1) : Int)) then
                        g2 b0_0
                          (List.set r1 (Int.toNat k4)
                            (IntKind.wrap IntKind.i64
                              (rdk kint r1 k4 + rdk kint r1 (IntKind.wrap IntKind.i64 (k4 - rdk kint r2 s22)))))
                          r2 r3 k4 s21 (IntKind.wrap IntKind.i64 (s22 + 1))
                      else none
                    else none
                  else none
                else none
              else none
            else none
          else g2 b0_0 r1 r2 r3 k4 s21 (IntKind.wrap IntKind.i64 (s22 + 1))
        else g2 b0_0 r1 r2 r3 k4 s21 (IntKind.wrap IntKind.i64 (s22 + 1))
      else none
    else none
  else g1 b0_0 r1 r2 r3 (IntKind.wrap IntKind.i64 (k4 + 1))
noncomputable def i_Stairs_down_t0 (g1 : Int → List (Int) → List (Int) → List (Int) → Int → Option (List Int)) (g2 : Int → List (Int) → List (Int) → List (Int) → Int → Int → Int → Option (List Int)) (s0_Steps : Int) (s0_Strides : List Int) (s0_Broken : List Int) : Option (List Int) :=
  bif IntKind.wrap IntKind.i64 (s0_Steps + 1) == IntKind.wrap IntKind.i64 (s0_Steps + 1) then
    bif decide (0 ≤ IntKind.wrap IntKind.i64 (s0_Steps + 1)) then
      bif decide (IntKind.wrap IntKind.i64 (s0_Steps + 1) ≤ (↑4294967296 : Int)) then
        bif decide (0 < (↑(List.length (List.replicate (Int.toNat (IntKind.wrap IntKind.i64 (s0_Steps + 1))) (Kd.zero kint))) : Int)) then
          g1 s0_Steps (List.set (List.replicate (Int.toNat (IntKind.wrap IntKind.i64 (s0_Steps + 1))) (Kd.zero kint)) (Int.toNat 0) 1) s0_Strides s0_Broken 1
        else none
      else none
    else none
  else none
theorem i_Stairs_down_ts : Tails c_i_Stairs_down.pts c_i_Stairs_down.round :=
  ⟨fun s => by
    obtain ⟨⟨⟨b0_0, _, _, _⟩, r1, r2, r3, _⟩, ⟨_, _, k4, _⟩, ⟨_, _⟩⟩ := s
    refine Tail.eq (Y := fun g => i_Stairs_down_t1 (fun b0_0 r1 r2 r3 k4 => g.1 (((b0_0, (), (), ()), r1, r2, r3, ()), ((), (), k4, ()), ((), ()))) (fun b0_0 r1 r2 r3 k4 s21 s22 => g.2.1 (((b0_0, (), (), ()), r1, r2, r3, ()), ((), (), k4, (), s21, s22, ()), ((), ()))) b0_0 r1 r2 r3 k4) ?_ (fun g => by kernel_rfl)
    simp only [i_Stairs_down_t1]; repeat (first | exact Tail.const _ | exact Tail.here _ | exact Tail.there (Tail.here _) | exact Tail.there (Tail.there (Tail.here _)) | exact Tail.there (Tail.there (Tail.there (Tail.here _))) | exact Tail.there (Tail.there (Tail.there (Tail.there (Tail.here _)))) | exact Tail.there (Tail.there (Tail.there (Tail.there (Tail.there (Tail.here _))))) | apply Tail.cond | (apply Tail.bind; intro _)),
  fun s => by
    obtain ⟨⟨⟨b0_0, _, _, _⟩, r1, r2, r3, _⟩, ⟨_, _, k4, _, s21, s22, _⟩, ⟨_, _⟩⟩ := s
    refine Tail.eq (Y := fun g => i_Stairs_down_t2 (fun b0_0 r1 r2 r3 k4 => g.1 (((b0_0, (), (), ()), r1, r2, r3, ()), ((), (), k4, ()), ((), ()))) (fun b0_0 r1 r2 r3 k4 s21 s22 => g.2.1 (((b0_0, (), (), ()), r1, r2, r3, ()), ((), (), k4, (), s21, s22, ()), ((), ()))) b0_0 r1 r2 r3 k4 s21 s22) ?_ (fun g => by kernel_rfl)
    simp only [i_Stairs_down_t2]; repeat (first | exact Tail.const _ | exact Tail.here _ | exact Tail.there (Tail.here _) | exact Tail.there (Tail.there (Tail.here _)) | exact Tail.there (Tail.there (Tail.there (Tail.here _))) | exact Tail.there (Tail.there (Tail.there (Tail.there (Tail.here _)))) | exact Tail.there (Tail.there (Tail.there (Tail.there (Tail.there (Tail.here _))))) | apply Tail.cond | (apply Tail.bind; intro _)), trivial⟩
theorem i_Stairs_down_hs : ∀ x, Tail c_i_Stairs_down.pts (fun g => c_i_Stairs_down.start g x) := fun x => by
    obtain ⟨⟨s0_Steps, s0_Strides, s0_Broken⟩, _⟩ := x
    refine Tail.eq (Y := fun g => i_Stairs_down_t0 (fun b0_0 r1 r2 r3 k4 => g.1 (((b0_0, (), (), ()), r1, r2, r3, ()), ((), (), k4, ()), ((), ()))) (fun b0_0 r1 r2 r3 k4 s21 s22 => g.2.1 (((b0_0, (), (), ()), r1, r2, r3, ()), ((), (), k4, (), s21, s22, ()), ((), ()))) s0_Steps s0_Strides s0_Broken) ?_ (fun g => by kernel_rfl)
    simp only [i_Stairs_down_t0]; repeat (first | exact Tail.const _ | exact Tail.here _ | exact Tail.there (Tail.here _) | exact Tail.there (Tail.there (Tail.here _)) | exact Tail.there (Tail.there (Tail.there (Tail.here _))) | exact Tail.there (Tail.there (Tail.there (Tail.there (Tail.here _)))) | exact Tail.there (Tail.there (Tail.there (Tail.there (Tail.there (Tail.here _))))) | apply Tail.cond | (apply Tail.bind; intro _))
noncomputable def i_Stairs_down_L1 (b0_0 : Int) (r1 : List (Int)) (r2 : List (Int)) (r3 : List (Int)) (k4 : Int) : Option (List Int) := c_i_Stairs_down.L.1 (((b0_0, (), (), ()), r1, r2, r3, ()), ((), (), k4, ()), ((), ()))
noncomputable def i_Stairs_down_L2 (b0_0 : Int) (r1 : List (Int)) (r2 : List (Int)) (r3 : List (Int)) (k4 : Int) (s21 : Int) (s22 : Int) : Option (List Int) := c_i_Stairs_down.L.2.1 (((b0_0, (), (), ()), r1, r2, r3, ()), ((), (), k4, (), s21, s22, ()), ((), ()))
theorem i_Stairs_down_u1 (b0_0 : Int) (r1 : List (Int)) (r2 : List (Int)) (r3 : List (Int)) (k4 : Int) : i_Stairs_down_L1 b0_0 r1 r2 r3 k4 = i_Stairs_down_t1 i_Stairs_down_L1 i_Stairs_down_L2 b0_0 r1 r2 r3 k4 :=
  (congrArg (fun g => g.1 (((b0_0, (), (), ()), r1, r2, r3, ()), ((), (), k4, ()), ((), ()))) (FnCx.L_eq i_Stairs_down_ts)).trans (by kernel_rfl)
theorem i_Stairs_down_u2 (b0_0 : Int) (r1 : List (Int)) (r2 : List (Int)) (r3 : List (Int)) (k4 : Int) (s21 : Int) (s22 : Int) : i_Stairs_down_L2 b0_0 r1 r2 r3 k4 s21 s22 = i_Stairs_down_t2 i_Stairs_down_L1 i_Stairs_down_L2 b0_0 r1 r2 r3 k4 s21 s22 :=
  (congrArg (fun g => g.2.1 (((b0_0, (), (), ()), r1, r2, r3, ()), ((), (), k4, (), s21, s22, ()), ((), ()))) (FnCx.L_eq i_Stairs_down_ts)).trans (by kernel_rfl)
noncomputable def i_Stairs_down (s0_Steps : Int) (s0_Strides : List Int) (s0_Broken : List Int) : Option (List Int) := i_Stairs_down_t0 i_Stairs_down_L1 i_Stairs_down_L2 s0_Steps s0_Strides s0_Broken
theorem i_Stairs_down_e (s0_Steps : Int) (s0_Strides : List Int) (s0_Broken : List Int) : c_i_Stairs_down.start c_i_Stairs_down.L ((s0_Steps, s0_Strides, s0_Broken), ()) = i_Stairs_down s0_Steps s0_Strides s0_Broken := by kernel_rfl
noncomputable def F_i_Stairs_down : Ins c_i_Stairs_down.ins → Option (List Int) := fun x => i_Stairs_down x.1.1 x.1.2.1 x.1.2.2
noncomputable def S_i_Stairs_down : FSpec := mkF c_i_Stairs_down.env.pre c_i_Stairs_down.ins c_i_Stairs_down.out c_i_Stairs_down.inj F_i_Stairs_down
theorem h_i_Stairs_down : Cert Tryz.prog 37 S_i_Stairs_down := FnCx.certF (c := c_i_Stairs_down) F_i_Stairs_down (tyOk _ _ _) (spOk ⟨h_i_Stairs_isBroken, fun _ _ h => h, trivial⟩) (fun _ _ _ _ _ hs => evDr_ok (tyOk _ _ _) hs follows) Tryz.func37 rfl rfl Tryz.ntmps37 (by kernel_rfl) rfl rfl (fun _ => rfl) i_Stairs_down_ts i_Stairs_down_hs (fun x t hb ht => by
  obtain ⟨⟨s0_Steps, s0_Strides, s0_Broken⟩, _⟩ := x
  exact (i_Stairs_down_e s0_Steps s0_Strides s0_Broken).trans ht)
/-! spec.clReached -/
noncomputable def c_s_clReached : FnCx := { env := env 47 [(43, S_s_clStands)] [], body := bodyOf Tryz.f46, res := [.tmp 2], ins := [.ro kStairs], out := [(kSbool, true)], T := List Bool, fin := fun r => r.1.1, inj := fun t => ((t, ()), ((), ())), pts := [([.inLoop [1, 1, 1, 0, 1, 0, 0], .inBlock 0, .code [1, 1, 1, 1]], Shape.mk [Bs.box 24 [Cs.sc kint, Cs.sl 2, Cs.sl 3], Bs.row kbool 4 true, Bs.row kint 3 false, Bs.row kint 3 false] [(1, Ss.one (Cs.ptr 0 0)), (3, Ss.one (Cs.sl 1)), (4, Ss.one (Cs.sc kint))] [Ss.one (Cs.any)]), ([.inLoop [1, 1, 1, 0, 1, 0, 0, 1, 0, 0, 1, 0, 0], .inBlock 2, .inBlock 1, .code [1, 1, 1, 0, 1, 0, 0, 1, 1], .inLoop [1, 1, 1, 0, 1, 0, 0], .inBlock 0, .code [1, 1, 1, 1]], Shape.mk [Bs.box 24 [Cs.sc kint, Cs.sl 2, Cs.sl 3], Bs.row kbool 4 true, Bs.row kint 3 false, Bs.row kint 3 false] [(1, Ss.one (Cs.ptr 0 0)), (3, Ss.one (Cs.sl 1)), (4, Ss.one (Cs.sc kint)), (20, Ss.one (Cs.sl 2)), (21, Ss.one (Cs.sc kint)), (22, Ss.one (Cs.sc kint))] [Ss.one (Cs.any)])], fuel := 400, dr := noDr }
noncomputable def s_clReached_t1 (g1 : Int → List (Bool) → List (Int) → List (Int) → Int → Option (List Bool)) (g2 : Int → List (Bool) → List (Int) → List (Int) → Int → Int → Int → Option (List Bool)) (b0_0 : Int) (r1 : List (Bool)) (r2 : List (Int)) (r3 : List (Int)) (step4 : Int) : Option (List Bool) :=
  bif decide (step4 ≤ b0_0) then g2 b0_0 r1 r2 r3 step4 (↑(List.length r2) : Int) 0 else some r1
noncomputable def s_clReached_t2 (g1 : Int → List (Bool) → List (Int) → List (Int) → Int → Option (List Bool)) (g2 : Int → List (Bool) → List (Int) → List (Int) → Int → Int → Int → Option (List Bool)) (b0_0 : Int) (r1 : List (Bool)) (r2 : List (Int)) (r3 : List (Int)) (step4 : Int) (s21 : Int) (s22 : Int) : Option (List Bool) :=
  bif decide (s22 < s21) then
    bif decide (0 ≤ s22) then
      bif decide (s22 < (↑(List.length r2) : Int)) then
        bif decide (rdk kint r2 s22 ≤ step4) then
          bif decide (0 ≤ IntKind.wrap IntKind.i64 (step4 - rdk kint r2 s22)) then
            bif decide (IntKind.wrap IntKind.i64 (step4 - rdk kint r2 s22) < (↑(List.length r1) : Int)) then
              bif rdk kbool r1 (IntKind.wrap IntKind.i64 (step4 - rdk kint r2 s22)) then
                bif s_clStands b0_0 r2 r3 step4 then
                  bif decide (0 ≤ step4) then
                    bif decide (step4 < (↑(List.length r1) : Int)) then
                      g2 b0_0 (List.set r1 (Int.toNat step4) true) r2 r3 step4 s21 (IntKind.wrap IntKind.i64 (s22 + 1))
                    else none
                  else none
                else g2 b0_0 r1 r2 r3 step4 s21 (IntKind.wrap IntKind.i64 (s22 + 1))
              else g2 b0_0 r1 r2 r3 step4 s21 (IntKind.wrap IntKind.i64 (s22 + 1))
            else none
          else none
        else g2 b0_0 r1 r2 r3 step4 s21 (IntKind.wrap IntKind.i64 (s22 + 1))
      else none
    else none
  else g1 b0_0 r1 r2 r3 (IntKind.wrap IntKind.i64 (step4 + 1))
noncomputable def s_clReached_t0 (g1 : Int → List (Bool) → List (Int) → List (Int) → Int → Option (List Bool)) (g2 : Int → List (Bool) → List (Int) → List (Int) → Int → Int → Int → Option (List Bool)) (s0_Steps : Int) (s0_Strides : List Int) (s0_Broken : List Int) : Option (List Bool) :=
  bif IntKind.wrap IntKind.i64 (s0_Steps + 1) == IntKind.wrap IntKind.i64 (s0_Steps + 1) then
    bif decide (0 ≤ IntKind.wrap IntKind.i64 (s0_Steps + 1)) then
      bif decide (IntKind.wrap IntKind.i64 (s0_Steps + 1) ≤ (↑4294967296 : Int)) then
        bif decide (0 < (↑(List.length (List.replicate (Int.toNat (IntKind.wrap IntKind.i64 (s0_Steps + 1))) (Kd.zero kbool))) : Int)) then
          g1 s0_Steps (List.set (List.replicate (Int.toNat (IntKind.wrap IntKind.i64 (s0_Steps + 1))) (Kd.zero kbool)) (Int.toNat 0) true) s0_Strides s0_Broken 1
        else none
      else none
    else none
  else none
theorem s_clReached_ts : Tails c_s_clReached.pts c_s_clReached.round :=
  ⟨fun s => by
    obtain ⟨⟨⟨b0_0, _, _, _⟩, r1, r2, r3, _⟩, ⟨_, _, step4, _⟩, ⟨_, _⟩⟩ := s
    refine Tail.eq (Y := fun g => s_clReached_t1 (fun b0_0 r1 r2 r3 step4 => g.1 (((b0_0, (), (), ()), r1, r2, r3, ()), ((), (), step4, ()), ((), ()))) (fun b0_0 r1 r2 r3 step4 s21 s22 => g.2.1 (((b0_0, (), (), ()), r1, r2, r3, ()), ((), (), step4, (), s21, s22, ()), ((), ()))) b0_0 r1 r2 r3 step4) ?_ (fun g => by kernel_rfl)
    simp only [s_clReached_t1]; repeat (first | exact Tail.const _ | exact Tail.here _ | exact Tail.there (Tail.here _) | exact Tail.there (Tail.there (Tail.here _)) | exact Tail.there (Tail.there (Tail.there (Tail.here _))) | exact Tail.there (Tail.there (Tail.there (Tail.there (Tail.here _)))) | exact Tail.there (Tail.there (Tail.there (Tail.there (Tail.there (Tail.here _))))) | apply Tail.cond | (apply Tail.bind; intro _)),
  fun s => by
    obtain ⟨⟨⟨b0_0, _, _, _⟩, r1, r2, r3, _⟩, ⟨_, _, step4, _, s21, s22, _⟩, ⟨_, _⟩⟩ := s
    refine Tail.eq (Y := fun g => s_clReached_t2 (fun b0_0 r1 r2 r3 step4 => g.1 (((b0_0, (), (), ()), r1, r2, r3, ()), ((), (), step4, ()), ((), ()))) (fun b0_0 r1 r2 r3 step4 s21 s22 => g.2.1 (((b0_0, (), (), ()), r1, r2, r3, ()), ((), (), step4, (), s21, s22, ()), ((), ()))) b0_0 r1 r2 r3 step4 s21 s22) ?_ (fun g => by kernel_rfl)
    simp only [s_clReached_t2]; repeat (first | exact Tail.const _ | exact Tail.here _ | exact Tail.there (Tail.here _) | exact Tail.there (Tail.there (Tail.here _)) | exact Tail.there (Tail.there (Tail.there (Tail.here _))) | exact Tail.there (Tail.there (Tail.there (Tail.there (Tail.here _)))) | exact Tail.there (Tail.there (Tail.there (Tail.there (Tail.there (Tail.here _))))) | apply Tail.cond | (apply Tail.bind; intro _)), trivial⟩
theorem s_clReached_hs : ∀ x, Tail c_s_clReached.pts (fun g => c_s_clReached.start g x) := fun x => by
    obtain ⟨⟨s0_Steps, s0_Strides, s0_Broken⟩, _⟩ := x
    refine Tail.eq (Y := fun g => s_clReached_t0 (fun b0_0 r1 r2 r3 step4 => g.1 (((b0_0, (), (), ()), r1, r2, r3, ()), ((), (), step4, ()), ((), ()))) (fun b0_0 r1 r2 r3 step4 s21 s22 => g.2.1 (((b0_0, (), (), ()), r1, r2, r3, ()), ((), (), step4, (), s21, s22, ()), ((), ()))) s0_Steps s0_Strides s0_Broken) ?_ (fun g => by kernel_rfl)
    simp only [s_clReached_t0]; repeat (first | exact Tail.const _ | exact Tail.here _ | exact Tail.there (Tail.here _) | exact Tail.there (Tail.there (Tail.here _)) | exact Tail.there (Tail.there (Tail.there (Tail.here _))) | exact Tail.there (Tail.there (Tail.there (Tail.there (Tail.here _)))) | exact Tail.there (Tail.there (Tail.there (Tail.there (Tail.there (Tail.here _))))) | apply Tail.cond | (apply Tail.bind; intro _))
noncomputable def s_clReached_L1 (b0_0 : Int) (r1 : List (Bool)) (r2 : List (Int)) (r3 : List (Int)) (step4 : Int) : Option (List Bool) := c_s_clReached.L.1 (((b0_0, (), (), ()), r1, r2, r3, ()), ((), (), step4, ()), ((), ()))
noncomputable def s_clReached_L2 (b0_0 : Int) (r1 : List (Bool)) (r2 : List (Int)) (r3 : List (Int)) (step4 : Int) (s21 : Int) (s22 : Int) : Option (List Bool) := c_s_clReached.L.2.1 (((b0_0, (), (), ()), r1, r2, r3, ()), ((), (), step4, (), s21, s22, ()), ((), ()))
theorem s_clReached_u1 (b0_0 : Int) (r1 : List (Bool)) (r2 : List (Int)) (r3 : List (Int)) (step4 : Int) : s_clReached_L1 b0_0 r1 r2 r3 step4 = s_clReached_t1 s_clReached_L1 s_clReached_L2 b0_0 r1 r2 r3 step4 :=
  (congrArg (fun g => g.1 (((b0_0, (), (), ()), r1, r2, r3, ()), ((), (), step4, ()), ((), ()))) (FnCx.L_eq s_clReached_ts)).trans (by kernel_rfl)
theorem s_clReached_u2 (b0_0 : Int) (r1 : List (Bool)) (r2 : List (Int)) (r3 : List (Int)) (step4 : Int) (s21 : Int) (s22 : Int) : s_clReached_L2 b0_0 r1 r2 r3 step4 s21 s22 = s_clReached_t2 s_clReached_L1 s_clReached_L2 b0_0 r1 r2 r3 step4 s21 s22 :=
  (congrArg (fun g => g.2.1 (((b0_0, (), (), ()), r1, r2, r3, ()), ((), (), step4, (), s21, s22, ()), ((), ()))) (FnCx.L_eq s_clReached_ts)).trans (by kernel_rfl)
noncomputable def s_clReached (s0_Steps : Int) (s0_Strides : List Int) (s0_Broken : List Int) : Option (List Bool) := s_clReached_t0 s_clReached_L1 s_clReached_L2 s0_Steps s0_Strides s0_Broken
theorem s_clReached_e (s0_Steps : Int) (s0_Strides : List Int) (s0_Broken : List Int) : c_s_clReached.start c_s_clReached.L ((s0_Steps, s0_Strides, s0_Broken), ()) = s_clReached s0_Steps s0_Strides s0_Broken := by kernel_rfl
noncomputable def F_s_clReached : Ins c_s_clReached.ins → Option (List Bool) := fun x => s_clReached x.1.1 x.1.2.1 x.1.2.2
noncomputable def S_s_clReached : FSpec := mkF c_s_clReached.env.pre c_s_clReached.ins c_s_clReached.out c_s_clReached.inj F_s_clReached
theorem h_s_clReached : Cert Tryz.prog 46 S_s_clReached := FnCx.certF (c := c_s_clReached) F_s_clReached (tyOk _ _ _) (spOk ⟨h_s_clStands, fun _ _ h => h, trivial⟩) (fun _ _ _ _ _ hs => noDr_ok) Tryz.func46 rfl rfl Tryz.ntmps46 (by kernel_rfl) rfl rfl (fun _ => rfl) s_clReached_ts s_clReached_hs (fun x t hb ht => by
  obtain ⟨⟨s0_Steps, s0_Strides, s0_Broken⟩, _⟩ := x
  exact (s_clReached_e s0_Steps s0_Strides s0_Broken).trans ht)
end Go.Proofs.YtgflffacaobkoaaGreatDoor.V
