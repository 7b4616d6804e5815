/- Functions of the program, as plain functions. No condition. -/
import Derived.Test.YtoldoplpnkojdaaGreatDoorK1
set_option linter.unusedVariables false
set_option linter.unusedSimpArgs false
set_option maxRecDepth 100000
namespace Go.Proofs.YtoldoplpnkojdaaGreatDoor.V
open Go Go.Ev Go.Proofs
/-! spec.l1Rising -/
noncomputable def c_s_l1Rising : FnCx := { env := env 35 [(95, S_s_l1In)] [], body := bodyOf Tryz.f119, res := [.tmp 6], ins := [.ro kSint, .ro kint, .ro kint], out := [(kbool, true)], T := Bool, fin := fun r => r.1.1, inj := fun t => ((t, ()), ((), (), (), ())), pts := [([.inLoop [1, 0, 1, 0, 0], .inBlock 0, .code [1, 1]], Shape.mk [Bs.row kint 3 false] [(0, Ss.one (Cs.sl 0)), (1, Ss.one (Cs.sc kint)), (2, Ss.one (Cs.sc kint)), (9, Ss.one (Cs.sl 0)), (10, Ss.one (Cs.sc kint)), (11, Ss.one (Cs.sc kint))] [Ss.one (Cs.any), Ss.one (Cs.any), Ss.one (Cs.any)])], fuel := 400, dr := noDr }
noncomputable def s_l1Rising_t1 (g1 : List (Int) → Int → Int → Int → Int → Option (Bool)) (r0 : List (Int)) (lo1 : Int) (hi2 : Int) (s10 : Int) (s11 : Int) : Option Bool :=
  bif decide (s11 < s10) then
    bif decide (0 ≤ s11) then
      bif decide (s11 < (↑(List.length r0) : Int)) then
        bif !s_l1In (rdk kint r0 s11) lo1 hi2 then some false
        else
          bif decide (s11 > 0) then
            bif decide (0 ≤ IntKind.wrap IntKind.i64 (s11 - 1)) then
              bif decide (IntKind.wrap IntKind.i64 (s11 - 1) < (↑(List.length r0) : Int)) then
                bif decide (rdk kint r0 (IntKind.wrap IntKind.i64 (s11 - 1)) ≥ rdk kint r0 s11) then some false
                else g1 r0 lo1 hi2 s10 (IntKind.wrap IntKind.i64 (s11 + 1))
              else none
            else none
          else g1 r0 lo1 hi2 s10 (IntKind.wrap IntKind.i64 (s11 + 1))
      else none
    else none
  else some true
noncomputable def s_l1Rising_t0 (g1 : List (Int) → Int → Int → Int → Int → Option (Bool)) (l0 : List Int) (lo1 : Int) (hi2 : Int) : Option Bool :=
  g1 l0 lo1 hi2 (↑(List.length l0) : Int) 0
theorem s_l1Rising_ts : Tails c_s_l1Rising.pts c_s_l1Rising.round :=
  ⟨fun s => by
    obtain ⟨⟨r0, _⟩, ⟨_, lo1, hi2, _, s10, s11, _⟩, ⟨_, _, _, _⟩⟩ := s
    refine Tail.eq (Y := fun g => s_l1Rising_t1 (fun r0 lo1 hi2 s10 s11 => g.1 ((r0, ()), ((), lo1, hi2, (), s10, s11, ()), ((), (), (), ()))) r0 lo1 hi2 s10 s11) ?_ (fun g => by kernel_rfl)
    simp only [s_l1Rising_t1]; repeat (first | exact Tail.const _ | exact Tail.here _ | exact Tail.there (Tail.here _) | exact Tail.there (Tail.there (Tail.here _)) | exact Tail.there (Tail.there (Tail.there (Tail.here _))) | exact Tail.there (Tail.there (Tail.there (Tail.there (Tail.here _)))) | exact Tail.there (Tail.there (Tail.there (Tail.there (Tail.there (Tail.here _))))) | apply Tail.cond | (apply Tail.bind; intro _)), trivial⟩
theorem s_l1Rising_hs : ∀ x, Tail c_s_l1Rising.pts (fun g => c_s_l1Rising.start g x) := fun x => by
    obtain ⟨l0, lo1, hi2, _⟩ := x
    refine Tail.eq (Y := fun g => s_l1Rising_t0 (fun r0 lo1 hi2 s10 s11 => g.1 ((r0, ()), ((), lo1, hi2, (), s10, s11, ()), ((), (), (), ()))) l0 lo1 hi2) ?_ (fun g => by kernel_rfl)
    simp only [s_l1Rising_t0]; repeat (first | exact Tail.const _ | exact Tail.here _ | exact Tail.there (Tail.here _) | exact Tail.there (Tail.there (Tail.here _)) | exact Tail.there (Tail.there (Tail.there (Tail.here _))) | exact Tail.there (Tail.there (Tail.there (Tail.there (Tail.here _)))) | exact Tail.there (Tail.there (Tail.there (Tail.there (Tail.there (Tail.here _))))) | apply Tail.cond | (apply Tail.bind; intro _))
noncomputable def s_l1Rising_L1 (r0 : List (Int)) (lo1 : Int) (hi2 : Int) (s10 : Int) (s11 : Int) : Option Bool := c_s_l1Rising.L.1 ((r0, ()), ((), lo1, hi2, (), s10, s11, ()), ((), (), (), ()))
theorem s_l1Rising_u1 (r0 : List (Int)) (lo1 : Int) (hi2 : Int) (s10 : Int) (s11 : Int) : s_l1Rising_L1 r0 lo1 hi2 s10 s11 = s_l1Rising_t1 s_l1Rising_L1 r0 lo1 hi2 s10 s11 :=
  (congrArg (fun g => g.1 ((r0, ()), ((), lo1, hi2, (), s10, s11, ()), ((), (), (), ()))) (FnCx.L_eq s_l1Rising_ts)).trans (by kernel_rfl)
noncomputable def s_l1Rising (l0 : List Int) (lo1 : Int) (hi2 : Int) : Option Bool := s_l1Rising_t0 s_l1Rising_L1 l0 lo1 hi2
theorem s_l1Rising_e (l0 : List Int) (lo1 : Int) (hi2 : Int) : c_s_l1Rising.start c_s_l1Rising.L (l0, lo1, hi2, ()) = s_l1Rising l0 lo1 hi2 := by kernel_rfl
-- NICE tot
noncomputable def s_l1Rising_n (l : List Int) (lo hi : Int) : Bool := rising lo hi l
theorem s_l1In_inB (x lo hi : Int) : s_l1In x lo hi = inB lo hi x := by
  unfold s_l1In inB
  cases h1 : decide (lo ≤ x) <;> simp_all
theorem s_l1Rising_ok (l : List Int) (lo hi : Int) (hb : BdI c_s_l1Rising.ins (l, lo, hi, ())) : s_l1Rising l lo hi = some (s_l1Rising_n l lo hi) :=
  have hm : l.length ≤ maxLen := hb.1.1
  loop_prev (L := fun i => s_l1Rising_L1 l lo hi l.length (i : Int)) (l := l) (p := riseP lo hi)
    (fun i h => by
      simp only [s_l1Rising_u1 l lo hi l.length i, s_l1Rising_t1, rdk_get (k := kint) h, wrapS h hm, s_l1In_inB]
      by_cases hi0 : i = 0
      · subst hi0
        simp only [if_true, riseP, ltO, Bool.and_true]
        cases inB lo hi l[0] <;> simp [h]
      · have hl : i - 1 < l.length := by omega
        have hg : 0 < i := by omega
        simp only [wrapP h hm hi0, rdk_get (k := kint) hl, if_neg hi0, riseP, List.getElem?_eq_getElem hl, ltO]
        have e1 : ((l[i - 1] : Int) < l[i]) = ¬ (l[i] ≤ l[i - 1]) := by simp
        cases inB lo hi l[i] <;> by_cases hc : l[i] ≤ l[i - 1] <;> simp [h, hl, hg, hc, e1]) (by simp [s_l1Rising_u1 l lo hi l.length l.length, s_l1Rising_t1])
noncomputable def F_s_l1Rising : Ins c_s_l1Rising.ins → Bool := fun x => s_l1Rising_n x.1 x.2.1 x.2.2.1
noncomputable def S_s_l1Rising : FSpec := mkT c_s_l1Rising.env.pre c_s_l1Rising.ins c_s_l1Rising.out c_s_l1Rising.inj F_s_l1Rising
theorem h_s_l1Rising : Cert Tryz.prog 119 S_s_l1Rising := FnCx.certT (c := c_s_l1Rising) F_s_l1Rising (tyOk _ _ _) (spOk ⟨h_s_l1In, fun _ _ h => h, trivial⟩) (fun _ _ _ _ _ hs => noDr_ok) Tryz.func119 rfl rfl Tryz.ntmps119 (by kernel_rfl) rfl rfl (fun _ => rfl) s_l1Rising_ts s_l1Rising_hs (fun x hb => by
  obtain ⟨l0, lo1, hi2, _⟩ := x
  exact (s_l1Rising_e l0 lo1 hi2).trans (s_l1Rising_ok l0 lo1 hi2 hb))
/-! spec.clGood -/
noncomputable def c_s_clGood : FnCx := { env := env 25 [(95, S_s_l1In), (119, S_s_l1Rising)] [], body := bodyOf Tryz.f99, res := [.tmp 2], ins := [.ro kStairs], out := [(kbool, true)], T := Bool, fin := fun r => r.1.1, inj := fun t => ((t, ()), ((), ())), pts := [], fuel := 400, dr := noDr }
noncomputable def s_clGood (s0_Steps : Int) (s0_Strides : List Int) (s0_Broken : List Int) : Bool :=
  bif s_l1In s0_Steps 1 60 then
    bif s_l1In (↑(List.length s0_Strides) : Int) 1 5 then
      bif s_l1Rising_n s0_Strides 1 9 then s_l1Rising_n s0_Broken 1 (IntKind.wrap IntKind.i64 (s0_Steps - 1)) else false
    else false
  else false
theorem s_clGood_e (s0_Steps : Int) (s0_Strides : List Int) (s0_Broken : List Int) : c_s_clGood.start c_s_clGood.L ((s0_Steps, s0_Strides, s0_Broken), ()) = some (s_clGood s0_Steps s0_Strides s0_Broken) := by
  refine Eq.trans (b := (bif s_l1In s0_Steps 1 60 then bif s_l1In (↑(List.length s0_Strides) : Int) 1 5 then bif s_l1Rising_n s0_Strides 1 9 then some (s_l1Rising_n s0_Broken 1 (IntKind.wrap IntKind.i64 (s0_Steps - 1))) else some false else some false else some false : Option Bool)) (by kernel_rfl) ?_
  unfold s_clGood
  repeat (first | rfl | apply condS)
theorem s_clGood_iff {a : Int} {b c : List Int} : s_clGood a b c = true ↔ (1 ≤ a ∧ a ≤ 60) ∧ (1 ≤ b.length ∧ b.length ≤ 5) ∧ rising 1 9 b = true ∧ rising 1 (a - 1) c = true := by
  unfold s_clGood
  simp only [s_l1In_inB, s_l1Rising_n]
  by_cases h : inB 1 60 a = true
  · have h2 := h
    simp only [inB, Bool.and_eq_true, decide_eq_true_eq] at h2
    rw [wrapI (by omega) (by omega), h]
    by_cases h3 : inB 1 5 (b.length : Int) = true
    · have h4 := h3
      simp only [inB, Bool.and_eq_true, decide_eq_true_eq] at h4
      rw [h3]
      have h5 : 1 ≤ b.length ∧ b.length ≤ 5 := by omega
      cases rising 1 9 b <;> simp [h2, h5]
    · have h4 : ¬ (1 ≤ b.length ∧ b.length ≤ 5) := fun h5 => h3 (by simp only [inB, Bool.and_eq_true, decide_eq_true_eq]; omega)
      simp only [Bool.not_eq_true] at h3
      rw [h3]
      simp [h4]
  · have h4 : ¬ (1 ≤ a ∧ a ≤ 60) := fun h5 => h (by simp only [inB, Bool.and_eq_true, decide_eq_true_eq]; omega)
    simp only [Bool.not_eq_true] at h
    rw [h]
    simp [h4]
theorem s_clGood_len {a : Int} {b c : List Int} (h : s_clGood a b c = true) : b.length ≤ 5 ∧ c.length ≤ 60 := by
  obtain ⟨h1, h2, h3, h4⟩ := s_clGood_iff.1 h
  have := rising_len h4
  omega
noncomputable def F_s_clGood : Ins c_s_clGood.ins → Bool := fun x => s_clGood x.1.1 x.1.2.1 x.1.2.2
noncomputable def S_s_clGood : FSpec := mkT c_s_clGood.env.pre c_s_clGood.ins c_s_clGood.out c_s_clGood.inj F_s_clGood
theorem h_s_clGood : Cert Tryz.prog 99 S_s_clGood := FnCx.certT (c := c_s_clGood) F_s_clGood (tyOk _ _ _) (spOk ⟨h_s_l1In, fun _ _ h => h, ⟨h_s_l1Rising, fun _ _ h => h, trivial⟩⟩) (fun _ _ _ _ _ hs => noDr_ok) Tryz.func99 rfl rfl Tryz.ntmps99 (by kernel_rfl) rfl rfl (fun _ => rfl) trivial (fun x => .inl ⟨c_s_clGood.start () x, fun _ => rfl⟩) (fun x hb => by
  obtain ⟨⟨s0_Steps, s0_Strides, s0_Broken⟩, _⟩ := x
  exact s_clGood_e s0_Steps s0_Strides s0_Broken)
/-! spec.pzHidden -/
noncomputable def c_s_pzHidden : FnCx := { env := env 27 [(99, S_s_clGood)] [], body := bodyOf Tryz.f115, res := [.tmp 2], ins := [.ro kStairs], out := [(kbool, true)], T := Bool, fin := fun r => r.1.1, inj := fun t => ((t, ()), ((), ())), pts := [], fuel := 400, dr := noDr }
noncomputable def s_pzHidden (s0_Steps : Int) (s0_Strides : List Int) (s0_Broken : List Int) : Option Bool :=
  bif s_clGood s0_Steps s0_Strides s0_Broken then
    bif decide (s0_Steps ≤ 7) then
      bif decide (0 ≤ IntKind.wrap IntKind.i64 ((↑(List.length s0_Strides) : Int) - 1)) then
        bif decide (IntKind.wrap IntKind.i64 ((↑(List.length s0_Strides) : Int) - 1) < (↑(List.length s0_Strides) : Int)) then
          bif decide (rdk kint s0_Strides (IntKind.wrap IntKind.i64 ((↑(List.length s0_Strides) : Int) - 1)) ≤ 3) then
            some (decide ((↑(List.length s0_Broken) : Int) < 2))
          else some false
        else none
      else none
    else some false
  else some false
theorem s_pzHidden_e (s0_Steps : Int) (s0_Strides : List Int) (s0_Broken : List Int) : c_s_pzHidden.start c_s_pzHidden.L ((s0_Steps, s0_Strides, s0_Broken), ()) = s_pzHidden s0_Steps s0_Strides s0_Broken := by kernel_rfl
noncomputable def F_s_pzHidden : Ins c_s_pzHidden.ins → Option Bool := fun x => s_pzHidden x.1.1 x.1.2.1 x.1.2.2
noncomputable def S_s_pzHidden : FSpec := mkF c_s_pzHidden.env.pre c_s_pzHidden.ins c_s_pzHidden.out c_s_pzHidden.inj F_s_pzHidden
theorem h_s_pzHidden : Cert Tryz.prog 115 S_s_pzHidden := FnCx.certF (c := c_s_pzHidden) F_s_pzHidden (tyOk _ _ _) (spOk ⟨h_s_clGood, fun _ _ h => h, trivial⟩) (fun _ _ _ _ _ hs => noDr_ok) Tryz.func115 rfl rfl Tryz.ntmps115 (by kernel_rfl) rfl rfl (fun _ => rfl) trivial (fun x => .inl ⟨c_s_pzHidden.start () x, fun _ => rfl⟩) (fun x t hb ht => by
  obtain ⟨⟨s0_Steps, s0_Strides, s0_Broken⟩, _⟩ := x
  exact (s_pzHidden_e s0_Steps s0_Strides s0_Broken).trans ht)
/-! impl.rise -/
noncomputable def c_i_rise : FnCx := { env := env 35 [(53, S_i_within)] [], body := bodyOf Tryz.f54, res := [.tmp 6], ins := [.ro kSint, .ro kint, .ro kint], out := [(kbool, true)], T := Bool, fin := fun r => r.1.1, inj := fun t => ((t, ()), ((), (), (), ())), pts := [([.inLoop [1, 0, 1, 0, 0], .inBlock 0, .code [1, 1]], Shape.mk [Bs.row kint 3 false] [(0, Ss.one (Cs.sl 0)), (1, Ss.one (Cs.sc kint)), (2, Ss.one (Cs.sc kint)), (9, Ss.one (Cs.sl 0)), (10, Ss.one (Cs.sc kint)), (11, Ss.one (Cs.sc kint))] [Ss.one (Cs.any), Ss.one (Cs.any), Ss.one (Cs.any)])], fuel := 400, dr := noDr }
noncomputable def i_rise_t1 (g1 : List (Int) → Int → Int → Int → Int → Option (Bool)) (r0 : List (Int)) (low1 : Int) (high2 : Int) (s10 : Int) (s11 : Int) : Option Bool :=
  bif decide (s11 < s10) then
    bif decide (0 ≤ s11) then
      bif decide (s11 < (↑(List.length r0) : Int)) then
        bif !i_within (rdk kint r0 s11) low1 high2 then some false
        else
          bif decide (s11 > 0) then
            bif decide (0 ≤ IntKind.wrap IntKind.i64 (s11 - 1)) then
              bif decide (IntKind.wrap IntKind.i64 (s11 - 1) < (↑(List.length r0) : Int)) then
                bif decide (rdk kint r0 s11 ≤ rdk kint r0 (IntKind.wrap IntKind.i64 (s11 - 1))) then some false
                else g1 r0 low1 high2 s10 (IntKind.wrap IntKind.i64 (s11 + 1))
              else none
            else none
          else g1 r0 low1 high2 s10 (IntKind.wrap IntKind.i64 (s11 + 1))
      else none
    else none
  else some true
noncomputable def i_rise_t0 (g1 : List (Int) → Int → Int → Int → Int → Option (Bool)) (l0 : List Int) (low1 : Int) (high2 : Int) : Option Bool :=
  g1 l0 low1 high2 (↑(List.length l0) : Int) 0
theorem i_rise_ts : Tails c_i_rise.pts c_i_rise.round :=
  ⟨fun s => by
    obtain ⟨⟨r0, _⟩, ⟨_, low1, high2, _, s10, s11, _⟩, ⟨_, _, _, _⟩⟩ := s
    refine Tail.eq (Y := fun g => i_rise_t1 (fun r0 low1 high2 s10 s11 => g.1 ((r0, ()), ((), low1, high2, (), s10, s11, ()), ((), (), (), ()))) r0 low1 high2 s10 s11) ?_ (fun g => by kernel_rfl)
    simp only [i_rise_t1]; repeat (first | exact Tail.const _ | exact Tail.here _ | exact Tail.there (Tail.here _) | exact Tail.there (Tail.there (Tail.here _)) | exact Tail.there (Tail.there (Tail.there (Tail.here _))) | exact Tail.there (Tail.there (Tail.there (Tail.there (Tail.here _)))) | exact Tail.there (Tail.there (Tail.there (Tail.there (Tail.there (Tail.here _))))) | apply Tail.cond | (apply Tail.bind; intro _)), trivial⟩
theorem i_rise_hs : ∀ x, Tail c_i_rise.pts (fun g => c_i_rise.start g x) := fun x => by
    obtain ⟨l0, low1, high2, _⟩ := x
    refine Tail.eq (Y := fun g => i_rise_t0 (fun r0 low1 high2 s10 s11 => g.1 ((r0, ()), ((), low1, high2, (), s10, s11, ()), ((), (), (), ()))) l0 low1 high2) ?_ (fun g => by kernel_rfl)
    simp only [i_rise_t0]; repeat (first | exact Tail.const _ | exact Tail.here _ | exact Tail.there (Tail.here _) | exact Tail.there (Tail.there (Tail.here _)) | exact Tail.there (Tail.there (Tail.there (Tail.here _))) | exact Tail.there (Tail.there (Tail.there (Tail.there (Tail.here _)))) | exact Tail.there (Tail.there (Tail.there (Tail.there (Tail.there (Tail.here _))))) | apply Tail.cond | (apply Tail.bind; intro _))
noncomputable def i_rise_L1 (r0 : List (Int)) (low1 : Int) (high2 : Int) (s10 : Int) (s11 : Int) : Option Bool := c_i_rise.L.1 ((r0, ()), ((), low1, high2, (), s10, s11, ()), ((), (), (), ()))
theorem i_rise_u1 (r0 : List (Int)) (low1 : Int) (high2 : Int) (s10 : Int) (s11 : Int) : i_rise_L1 r0 low1 high2 s10 s11 = i_rise_t1 i_rise_L1 r0 low1 high2 s10 s11 :=
  (congrArg (fun g => g.1 ((r0, ()), ((), low1, high2, (), s10, s11, ()), ((), (), (), ()))) (FnCx.L_eq i_rise_ts)).trans (by kernel_rfl)
noncomputable def i_rise (l0 : List Int) (low1 : Int) (high2 : Int) : Option Bool := i_rise_t0 i_rise_L1 l0 low1 high2
theorem i_rise_e (l0 : List Int) (low1 : Int) (high2 : Int) : c_i_rise.start c_i_rise.L (l0, low1, high2, ()) = i_rise l0 low1 high2 := by kernel_rfl
-- NICE tot
noncomputable def i_rise_n (l : List Int) (lo hi : Int) : Bool := rising lo hi l
theorem i_within_inB (x lo hi : Int) : i_within x lo hi = inB lo hi x := by
  unfold i_within inB
  cases h1 : decide (lo ≤ x) <;> simp_all
theorem i_rise_ok (l : List Int) (lo hi : Int) (hb : BdI c_i_rise.ins (l, lo, hi, ())) : i_rise l lo hi = some (i_rise_n l lo hi) :=
  have hm : l.length ≤ maxLen := hb.1.1
  loop_prev (L := fun i => i_rise_L1 l lo hi l.length (i : Int)) (l := l) (p := riseP lo hi)
    (fun i h => by
      simp only [i_rise_u1 l lo hi l.length i, i_rise_t1, rdk_get (k := kint) h, wrapS h hm, i_within_inB]
      by_cases hi0 : i = 0
      · subst hi0
        simp only [if_true, riseP, ltO, Bool.and_true]
        cases inB lo hi l[0] <;> simp [h]
      · have hl : i - 1 < l.length := by omega
        have hg : 0 < i := by omega
        simp only [wrapP h hm hi0, rdk_get (k := kint) hl, if_neg hi0, riseP, List.getElem?_eq_getElem hl, ltO]
        have e1 : ((l[i - 1] : Int) < l[i]) = ¬ (l[i] ≤ l[i - 1]) := by simp
        cases inB lo hi l[i] <;> by_cases hc : l[i] ≤ l[i - 1] <;> simp [h, hl, hg, hc, e1]) (by simp [i_rise_u1 l lo hi l.length l.length, i_rise_t1])
noncomputable def F_i_rise : Ins c_i_rise.ins → Bool := fun x => i_rise_n x.1 x.2.1 x.2.2.1
noncomputable def S_i_rise : FSpec := mkT c_i_rise.env.pre c_i_rise.ins c_i_rise.out c_i_rise.inj F_i_rise
theorem h_i_rise : Cert Tryz.prog 54 S_i_rise := FnCx.certT (c := c_i_rise) F_i_rise (tyOk _ _ _) (spOk ⟨h_i_within, fun _ _ h => h, trivial⟩) (fun _ _ _ _ _ hs => noDr_ok) Tryz.func54 rfl rfl Tryz.ntmps54 (by kernel_rfl) rfl rfl (fun _ => rfl) i_rise_ts i_rise_hs (fun x hb => by
  obtain ⟨l0, low1, high2, _⟩ := x
  exact (i_rise_e l0 low1 high2).trans (i_rise_ok l0 low1 high2 hb))
/-! impl.AreStairs -/
noncomputable def c_i_AreStairs : FnCx := { env := env 25 [(53, S_i_within), (54, S_i_rise)] [], body := bodyOf Tryz.f29, res := [.tmp 2], ins := [.ro kStairs], out := [(kbool, true)], T := Bool, fin := fun r => r.1.1, inj := fun t => ((t, ()), ((), ())), pts := [], fuel := 400, dr := noDr }
noncomputable def i_AreStairs (s0_Steps : Int) (s0_Strides : List Int) (s0_Broken : List Int) : Bool :=
  bif i_within s0_Steps 1 60 then
    bif i_within (↑(List.length s0_Strides) : Int) 1 5 then
      bif i_rise_n s0_Strides 1 9 then i_rise_n s0_Broken 1 (IntKind.wrap IntKind.i64 (s0_Steps - 1)) else false
    else false
  else false
theorem i_AreStairs_e (s0_Steps : Int) (s0_Strides : List Int) (s0_Broken : List Int) : c_i_AreStairs.start c_i_AreStairs.L ((s0_Steps, s0_Strides, s0_Broken), ()) = some (i_AreStairs s0_Steps s0_Strides s0_Broken) := by
  refine Eq.trans (b := (bif i_within s0_Steps 1 60 then bif i_within (↑(List.length s0_Strides) : Int) 1 5 then bif i_rise_n s0_Strides 1 9 then some (i_rise_n s0_Broken 1 (IntKind.wrap IntKind.i64 (s0_Steps - 1))) else some false else some false else some false : Option Bool)) (by kernel_rfl) ?_
  unfold i_AreStairs
  repeat (first | rfl | apply condS)
theorem i_AreStairs_eq (a : Int) (b c : List Int) : i_AreStairs a b c = s_clGood a b c := by
  unfold i_AreStairs s_clGood
  simp only [i_within_inB, s_l1In_inB]
  rfl
noncomputable def F_i_AreStairs : Ins c_i_AreStairs.ins → Bool := fun x => i_AreStairs x.1.1 x.1.2.1 x.1.2.2
noncomputable def S_i_AreStairs : FSpec := mkT c_i_AreStairs.env.pre c_i_AreStairs.ins c_i_AreStairs.out c_i_AreStairs.inj F_i_AreStairs
theorem h_i_AreStairs : Cert Tryz.prog 29 S_i_AreStairs := FnCx.certT (c := c_i_AreStairs) F_i_AreStairs (tyOk _ _ _) (spOk ⟨h_i_within, fun _ _ h => h, ⟨h_i_rise, fun _ _ h => h, trivial⟩⟩) (fun _ _ _ _ _ hs => noDr_ok) Tryz.func29 rfl rfl Tryz.ntmps29 (by kernel_rfl) rfl rfl (fun _ => rfl) trivial (fun x => .inl ⟨c_i_AreStairs.start () x, fun _ => rfl⟩) (fun x hb => by
  obtain ⟨⟨s0_Steps, s0_Strides, s0_Broken⟩, _⟩ := x
  exact i_AreStairs_e s0_Steps s0_Strides s0_Broken)
/-! impl.isHidden -/
noncomputable def c_i_isHidden : FnCx := { env := env 21 [(29, S_i_AreStairs), (54, S_i_rise)] [], body := bodyOf Tryz.f55, res := [.tmp 2], ins := [.ro kStairs], out := [(kbool, true)], T := Bool, fin := fun r => r.1.1, inj := fun t => ((t, ()), ((), ())), pts := [], fuel := 400, dr := noDr }
noncomputable def i_isHidden (s0_Steps : Int) (s0_Strides : List Int) (s0_Broken : List Int) : Bool :=
  bif i_AreStairs s0_Steps s0_Strides s0_Broken then
    bif decide (s0_Steps ≤ 7) then bif i_rise_n s0_Strides 1 3 then decide ((↑(List.length s0_Broken) : Int) ≤ 1) else false else false
  else false
theorem i_isHidden_e (s0_Steps : Int) (s0_Strides : List Int) (s0_Broken : List Int) : c_i_isHidden.start c_i_isHidden.L ((s0_Steps, s0_Strides, s0_Broken), ()) = some (i_isHidden s0_Steps s0_Strides s0_Broken) := by
  refine Eq.trans (b := (bif i_AreStairs s0_Steps s0_Strides s0_Broken then bif decide (s0_Steps ≤ 7) then bif i_rise_n s0_Strides 1 3 then some (decide ((↑(List.length s0_Broken) : Int) ≤ 1)) else some false else some false else some false : Option Bool)) (by kernel_rfl) ?_
  unfold i_isHidden
  repeat (first | rfl | apply condS)
noncomputable def F_i_isHidden : Ins c_i_isHidden.ins → Bool := fun x => i_isHidden x.1.1 x.1.2.1 x.1.2.2
noncomputable def S_i_isHidden : FSpec := mkT c_i_isHidden.env.pre c_i_isHidden.ins c_i_isHidden.out c_i_isHidden.inj F_i_isHidden
theorem h_i_isHidden : Cert Tryz.prog 55 S_i_isHidden := FnCx.certT (c := c_i_isHidden) F_i_isHidden (tyOk _ _ _) (spOk ⟨h_i_AreStairs, fun _ _ h => h, ⟨h_i_rise, fun _ _ h => h, trivial⟩⟩) (fun _ _ _ _ _ hs => noDr_ok) Tryz.func55 rfl rfl Tryz.ntmps55 (by kernel_rfl) rfl rfl (fun _ => rfl) trivial (fun x => .inl ⟨c_i_isHidden.start () x, fun _ => rfl⟩) (fun x hb => by
  obtain ⟨⟨s0_Steps, s0_Strides, s0_Broken⟩, _⟩ := x
  exact i_isHidden_e s0_Steps s0_Strides s0_Broken)
/-! spec.l1Has -/
noncomputable def c_s_l1Has : FnCx := { env := env 17 [] [], body := bodyOf Tryz.f75, res := [.tmp 4], ins := [.ro kSint, .ro kint], out := [(kbool, true)], T := Bool, fin := fun r => r.1.1, inj := fun t => ((t, ()), ((), (), ())), pts := [([.inLoop [1, 0, 1, 0, 0], .inBlock 0, .code [1, 1]], Shape.mk [Bs.row kint 3 false] [(1, Ss.one (Cs.sc kint)), (7, Ss.one (Cs.sl 0)), (8, Ss.one (Cs.sc kint)), (9, Ss.one (Cs.sc kint))] [Ss.one (Cs.any), Ss.one (Cs.any)])], fuel := 400, dr := noDr }
noncomputable def s_l1Has_t1 (g1 : List (Int) → Int → Int → Int → Option (Bool)) (r0 : List (Int)) (n1 : Int) (s8 : Int) (s9 : Int) : Option Bool :=
  bif decide (s9 < s8) then
    bif decide (0 ≤ s9) then
      bif decide (s9 < (↑(List.length r0) : Int)) then
        bif rdk kint r0 s9 == n1 then some true else g1 r0 n1 s8 (IntKind.wrap IntKind.i64 (s9 + 1))
      else none
    else none
  else some false
noncomputable def s_l1Has_t0 (g1 : List (Int) → Int → Int → Int → Option (Bool)) (l0 : List Int) (n1 : Int) : Option Bool :=
  g1 l0 n1 (↑(List.length l0) : Int) 0
theorem s_l1Has_ts : Tails c_s_l1Has.pts c_s_l1Has.round :=
  ⟨fun s => by
    obtain ⟨⟨r0, _⟩, ⟨n1, _, s8, s9, _⟩, ⟨_, _, _⟩⟩ := s
    refine Tail.eq (Y := fun g => s_l1Has_t1 (fun r0 n1 s8 s9 => g.1 ((r0, ()), (n1, (), s8, s9, ()), ((), (), ()))) r0 n1 s8 s9) ?_ (fun g => by kernel_rfl)
    simp only [s_l1Has_t1]; repeat (first | exact Tail.const _ | exact Tail.here _ | exact Tail.there (Tail.here _) | exact Tail.there (Tail.there (Tail.here _)) | exact Tail.there (Tail.there (Tail.there (Tail.here _))) | exact Tail.there (Tail.there (Tail.there (Tail.there (Tail.here _)))) | exact Tail.there (Tail.there (Tail.there (Tail.there (Tail.there (Tail.here _))))) | apply Tail.cond | (apply Tail.bind; intro _)), trivial⟩
theorem s_l1Has_hs : ∀ x, Tail c_s_l1Has.pts (fun g => c_s_l1Has.start g x) := fun x => by
    obtain ⟨l0, n1, _⟩ := x
    refine Tail.eq (Y := fun g => s_l1Has_t0 (fun r0 n1 s8 s9 => g.1 ((r0, ()), (n1, (), s8, s9, ()), ((), (), ()))) l0 n1) ?_ (fun g => by kernel_rfl)
    simp only [s_l1Has_t0]; repeat (first | exact Tail.const _ | exact Tail.here _ | exact Tail.there (Tail.here _) | exact Tail.there (Tail.there (Tail.here _)) | exact Tail.there (Tail.there (Tail.there (Tail.here _))) | exact Tail.there (Tail.there (Tail.there (Tail.there (Tail.here _)))) | exact Tail.there (Tail.there (Tail.there (Tail.there (Tail.there (Tail.here _))))) | apply Tail.cond | (apply Tail.bind; intro _))
noncomputable def s_l1Has_L1 (r0 : List (Int)) (n1 : Int) (s8 : Int) (s9 : Int) : Option Bool := c_s_l1Has.L.1 ((r0, ()), (n1, (), s8, s9, ()), ((), (), ()))
theorem s_l1Has_u1 (r0 : List (Int)) (n1 : Int) (s8 : Int) (s9 : Int) : s_l1Has_L1 r0 n1 s8 s9 = s_l1Has_t1 s_l1Has_L1 r0 n1 s8 s9 :=
  (congrArg (fun g => g.1 ((r0, ()), (n1, (), s8, s9, ()), ((), (), ()))) (FnCx.L_eq s_l1Has_ts)).trans (by kernel_rfl)
noncomputable def s_l1Has (l0 : List Int) (n1 : Int) : Option Bool := s_l1Has_t0 s_l1Has_L1 l0 n1
theorem s_l1Has_e (l0 : List Int) (n1 : Int) : c_s_l1Has.start c_s_l1Has.L (l0, n1, ()) = s_l1Has l0 n1 := by kernel_rfl
-- NICE tot
noncomputable def s_l1Has_n (l : List Int) (v : Int) : Bool := decide (v ∈ l)
theorem s_l1Has_ok (l : List Int) (v : Int) (hb : BdI c_s_l1Has.ins (l, v, ())) : s_l1Has l v = some (s_l1Has_n l v) := by
  have hm : l.length ≤ maxLen := hb.1.1
  have e := loop_any (L := fun i => s_l1Has_L1 l v l.length (i : Int)) (l := l) (p := fun x => x == v) (a := true) (b := false)
    (fun i h => by simp only [s_l1Has_u1 l v l.length i, s_l1Has_t1, rdk_get (k := kint) h, wrapS h hm]; simp [h]) (by simp [s_l1Has_u1 l v l.length l.length, s_l1Has_t1])
  refine Eq.trans e (congrArg some ?_)
  unfold s_l1Has_n
  clear e hb hm
  induction l with
  | nil => rfl
  | cons x l ih =>
    rw [List.any_cons]
    by_cases h : x = v
    · simp [h]
    · have h' : ¬ v = x := fun e => h e.symm
      simp only [List.mem_cons, h', false_or] at ih ⊢
      rw [← ih]
      simp [h]
noncomputable def F_s_l1Has : Ins c_s_l1Has.ins → Bool := fun x => s_l1Has_n x.1 x.2.1
noncomputable def S_s_l1Has : FSpec := mkT c_s_l1Has.env.pre c_s_l1Has.ins c_s_l1Has.out c_s_l1Has.inj F_s_l1Has
theorem h_s_l1Has : Cert Tryz.prog 75 S_s_l1Has := FnCx.certT (c := c_s_l1Has) F_s_l1Has (tyOk _ _ _) (spOk trivial) (fun _ _ _ _ _ hs => noDr_ok) Tryz.func75 rfl rfl Tryz.ntmps75 (by kernel_rfl) rfl rfl (fun _ => rfl) s_l1Has_ts s_l1Has_hs (fun x hb => by
  obtain ⟨l0, n1, _⟩ := x
  exact (s_l1Has_e l0 n1).trans (s_l1Has_ok l0 n1 hb))
/-! spec.clStands -/
noncomputable def c_s_clStands : FnCx := { env := env 16 [(95, S_s_l1In), (75, S_s_l1Has)] [], body := bodyOf Tryz.f97, res := [.tmp 4], ins := [.ro kStairs, .ro kint], out := [(kbool, true)], T := Bool, fin := fun r => r.1.1, inj := fun t => ((t, ()), ((), (), ())), pts := [], fuel := 400, dr := noDr }
noncomputable def s_clStands (s0_Steps : Int) (s0_Strides : List Int) (s0_Broken : List Int) (step1 : Int) : Bool :=
  bif s_l1In step1 0 s0_Steps then !s_l1Has_n s0_Broken step1 else false
theorem s_clStands_e (s0_Steps : Int) (s0_Strides : List Int) (s0_Broken : List Int) (step1 : Int) : c_s_clStands.start c_s_clStands.L ((s0_Steps, s0_Strides, s0_Broken), step1, ()) = some (s_clStands s0_Steps s0_Strides s0_Broken step1) := by
  refine Eq.trans (b := (bif s_l1In step1 0 s0_Steps then some !s_l1Has_n s0_Broken step1 else some false : Option Bool)) (by kernel_rfl) ?_
  unfold s_clStands
  repeat (first | rfl | apply condS)
noncomputable def F_s_clStands : Ins c_s_clStands.ins → Bool := fun x => s_clStands x.1.1 x.1.2.1 x.1.2.2 x.2.1
noncomputable def S_s_clStands : FSpec := mkT c_s_clStands.env.pre c_s_clStands.ins c_s_clStands.out c_s_clStands.inj F_s_clStands
theorem h_s_clStands : Cert Tryz.prog 97 S_s_clStands := FnCx.certT (c := c_s_clStands) F_s_clStands (tyOk _ _ _) (spOk ⟨h_s_l1In, fun _ _ h => h, ⟨h_s_l1Has, fun _ _ h => h, trivial⟩⟩) (fun _ _ _ _ _ hs => noDr_ok) Tryz.func97 rfl rfl Tryz.ntmps97 (by kernel_rfl) rfl rfl (fun _ => rfl) trivial (fun x => .inl ⟨c_s_clStands.start () x, fun _ => rfl⟩) (fun x hb => by
  obtain ⟨⟨s0_Steps, s0_Strides, s0_Broken⟩, step1, _⟩ := x
  exact s_clStands_e s0_Steps s0_Strides s0_Broken step1)
/-! spec.l1Least -/
noncomputable def c_s_l1Least : FnCx := { env := env 10 [] [], body := bodyOf Tryz.f98, res := [.tmp 4], ins := [.ro kint, .ro kint], out := [(kint, true)], T := Int, fin := fun r => r.1.1, inj := fun t => ((t, ()), ((), (), ())), pts := [], fuel := 400, dr := noDr }
noncomputable def s_l1Least (a0 : Int) (b1 : Int) : Int :=
  bif decide (a0 < b1) then a0 else b1
theorem s_l1Least_e (a0 : Int) (b1 : Int) : c_s_l1Least.start c_s_l1Least.L (a0, b1, ()) = some (s_l1Least a0 b1) := by
  refine Eq.trans (b := (bif decide (a0 < b1) then some a0 else some b1 : Option Int)) (by kernel_rfl) ?_
  unfold s_l1Least
  repeat (first | rfl | apply condS)
noncomputable def F_s_l1Least : Ins c_s_l1Least.ins → Int := fun x => s_l1Least x.1 x.2.1
noncomputable def S_s_l1Least : FSpec := mkT c_s_l1Least.env.pre c_s_l1Least.ins c_s_l1Least.out c_s_l1Least.inj F_s_l1Least
theorem h_s_l1Least : Cert Tryz.prog 98 S_s_l1Least := FnCx.certT (c := c_s_l1Least) F_s_l1Least (tyOk _ _ _) (spOk trivial) (fun _ _ _ _ _ hs => noDr_ok) Tryz.func98 rfl rfl Tryz.ntmps98 (by kernel_rfl) rfl rfl (fun _ => rfl) trivial (fun x => .inl ⟨c_s_l1Least.start () x, fun _ => rfl⟩) (fun x hb => by
  obtain ⟨a0, b1, _⟩ := x
  exact s_l1Least_e a0 b1)
/-! spec.clWays -/
noncomputable def c_s_clWays : FnCx := { env := env 56 [(97, S_s_clStands), (98, S_s_l1Least)] [], body := bodyOf Tryz.f73, res := [.tmp 2], ins := [.ro kStairs], out := [(kSint, true)], T := List Int, fin := fun r => r.1.1, inj := fun t => ((t, ()), ((), ())), pts := [([.inLoop [1, 1, 1, 0, 1, 0, 0], .inBlock 0, .code [1, 1, 1, 1]], Shape.mk [Bs.box 32 [Cs.sc kint, Cs.sl 2, Cs.sl 3], Bs.row kint 3 true, Bs.row kint 3 false, Bs.row kint 3 false] [(1, Ss.one (Cs.ptr 0 0)), (3, Ss.one (Cs.sl 1)), (4, Ss.one (Cs.sc kint))] [Ss.one (Cs.any)]), ([.inLoop [1, 1, 1, 0, 1, 0, 0, 1, 0, 0, 1, 1, 0, 0], .inBlock 2, .inBlock 1, .code [1, 1, 1, 0, 1, 0, 0, 1, 1], .inLoop [1, 1, 1, 0, 1, 0, 0], .inBlock 0, .code [1, 1, 1, 1]], Shape.mk [Bs.box 32 [Cs.sc kint, Cs.sl 2, Cs.sl 3], Bs.row kint 3 true, Bs.row kint 3 false, Bs.row kint 3 false] [(1, Ss.one (Cs.ptr 0 0)), (3, Ss.one (Cs.sl 1)), (4, Ss.one (Cs.sc kint)), (27, Ss.one (Cs.sl 2)), (28, Ss.one (Cs.sc kint)), (29, Ss.one (Cs.sc kint))] [Ss.one (Cs.any)])], fuel := 400, dr := evDr (env 56 [(97, S_s_clStands), (98, S_s_l1Least)] []) }
noncomputable def s_clWays_t1 (g1 : Int → List (Int) → List (Int) → List (Int) → Int → Option (List Int)) (g2 : Int → List (Int) → List (Int) → List (Int) → Int → Int → Int → Option (List Int)) (b0_0 : Int) (r1 : List (Int)) (r2 : List (Int)) (r3 : List (Int)) (step4 : Int) : Option (List Int) :=
  bif decide (step4 ≥ 0) then
    bif !s_clStands b0_0 r2 r3 step4 then g1 b0_0 r1 r2 r3 (IntKind.wrap IntKind.i64 (step4 - 1)) else g2 b0_0 r1 r2 r3 step4 (↑(List.length r2) : Int) 0
  else some r1
noncomputable def s_clWays_t2 (g1 : Int → List (Int) → List (Int) → List (Int) → Int → Option (List Int)) (g2 : Int → List (Int) → List (Int) → List (Int) → Int → Int → Int → Option (List Int)) (b0_0 : Int) (r1 : List (Int)) (r2 : List (Int)) (r3 : List (Int)) (step4 : Int) (s28 : Int) (s29 : Int) : Option (List Int) :=
  bif decide (s29 < s28) then
    bif decide (0 ≤ s29) then
      bif decide (s29 < (↑(List.length r2) : Int)) then
        bif decide (IntKind.wrap IntKind.i64 (step4 + rdk kint r2 s29) ≤ b0_0) then
          bif decide (0 ≤ step4) then
            bif decide (step4 < (↑(List.length r1) : Int)) then
              bif decide (0 ≤ IntKind.wrap IntKind.i64 (step4 + rdk kint r2 s29)) then
                bif decide (IntKind.wrap IntKind.i64 (step4 + rdk kint r2 s29) < (↑(List.length r1) : Int)) then
                  bif decide (0 ≤ step4) then
                    bif decide (step4 < (↑(List.length r1) : Int)) then
                      g2 b0_0
                        (List.set r1 (Int.toNat step4)
                          (s_l1Least
                            (IntKind.wrap IntKind.i64
                              (rdk kint r1 step4 +
                                rdk kint r1 (IntKind.wrap IntKind.i64 (step4 + rdk kint r2 s29))))
                            1000000000000001))
                        r2 r3 step4 s28 (IntKind.wrap IntKind.i64 (s29 + 1))
                    else none
                  else none
                else none
              else none
            else none
          else none
        else g2 b0_0 r1 r2 r3 step4 s28 (IntKind.wrap IntKind.i64 (s29 + 1))
      else none
    else none
  else g1 b0_0 r1 r2 r3 (IntKind.wrap IntKind.i64 (step4 - 1))
noncomputable def s_clWays_t0 (g1 : Int → List (Int) → List (Int) → List (Int) → Int → Option (List Int)) (g2 : Int → List (Int) → List (Int) → List (Int) → Int → Int → Int → Option (List Int)) (s0_Steps : Int) (s0_Strides : List Int) (s0_Broken : List Int) : Option (List Int) :=
  bif IntKind.wrap IntKind.i64 (s0_Steps + 1) == IntKind.wrap IntKind.i64 (s0_Steps + 1) then
    bif decide (0 ≤ IntKind.wrap IntKind.i64 (s0_Steps + 1)) then
      bif decide (IntKind.wrap IntKind.i64 (s0_Steps + 1) ≤ (↑4294967296 : Int)) then
        bif decide (0 ≤ s0_Steps) then
          bif decide (s0_Steps < (↑(List.length (List.replicate (Int.toNat (IntKind.wrap IntKind.i64 (s0_Steps + 1))) (Kd.zero kint))) : Int)) then
            g1 s0_Steps (List.set (List.replicate (Int.toNat (IntKind.wrap IntKind.i64 (s0_Steps + 1))) (Kd.zero kint)) (Int.toNat s0_Steps) 1) s0_Strides
              s0_Broken (IntKind.wrap IntKind.i64 (s0_Steps - 1))
          else none
        else none
      else none
    else none
  else none
theorem s_clWays_ts : Tails c_s_clWays.pts c_s_clWays.round :=
  ⟨fun s => by
    obtain ⟨⟨⟨b0_0, _, _, _⟩, r1, r2, r3, _⟩, ⟨_, _, step4, _⟩, ⟨_, _⟩⟩ := s
    refine Tail.eq (Y := fun g => s_clWays_t1 (fun b0_0 r1 r2 r3 step4 => g.1 (((b0_0, (), (), ()), r1, r2, r3, ()), ((), (), step4, ()), ((), ()))) (fun b0_0 r1 r2 r3 step4 s28 s29 => g.2.1 (((b0_0, (), (), ()), r1, r2, r3, ()), ((), (), step4, (), s28, s29, ()), ((), ()))) b0_0 r1 r2 r3 step4) ?_ (fun g => by kernel_rfl)
    simp only [s_clWays_t1]; repeat (first | exact Tail.const _ | exact Tail.here _ | exact Tail.there (Tail.here _) | exact Tail.there (Tail.there (Tail.here _)) | exact Tail.there (Tail.there (Tail.there (Tail.here _))) | exact Tail.there (Tail.there (Tail.there (Tail.there (Tail.here _)))) | exact Tail.there (Tail.there (Tail.there (Tail.there (Tail.there (Tail.here _))))) | apply Tail.cond | (apply Tail.bind; intro _)),
  fun s => by
    obtain ⟨⟨⟨b0_0, _, _, _⟩, r1, r2, r3, _⟩, ⟨_, _, step4, _, s28, s29, _⟩, ⟨_, _⟩⟩ := s
    refine Tail.eq (Y := fun g => s_clWays_t2 (fun b0_0 r1 r2 r3 step4 => g.1 (((b0_0, (), (), ()), r1, r2, r3, ()), ((), (), step4, ()), ((), ()))) (fun b0_0 r1 r2 r3 step4 s28 s29 => g.2.1 (((b0_0, (), (), ()), r1, r2, r3, ()), ((), (), step4, (), s28, s29, ()), ((), ()))) b0_0 r1 r2 r3 step4 s28 s29) ?_ (fun g => by kernel_rfl)
    simp only [s_clWays_t2]; repeat (first | exact Tail.const _ | exact Tail.here _ | exact Tail.there (Tail.here _) | exact Tail.there (Tail.there (Tail.here _)) | exact Tail.there (Tail.there (Tail.there (Tail.here _))) | exact Tail.there (Tail.there (Tail.there (Tail.there (Tail.here _)))) | exact Tail.there (Tail.there (Tail.there (Tail.there (Tail.there (Tail.here _))))) | apply Tail.cond | (apply Tail.bind; intro _)), trivial⟩
theorem s_clWays_hs : ∀ x, Tail c_s_clWays.pts (fun g => c_s_clWays.start g x) := fun x => by
    obtain ⟨⟨s0_Steps, s0_Strides, s0_Broken⟩, _⟩ := x
    refine Tail.eq (Y := fun g => s_clWays_t0 (fun b0_0 r1 r2 r3 step4 => g.1 (((b0_0, (), (), ()), r1, r2, r3, ()), ((), (), step4, ()), ((), ()))) (fun b0_0 r1 r2 r3 step4 s28 s29 => g.2.1 (((b0_0, (), (), ()), r1, r2, r3, ()), ((), (), step4, (), s28, s29, ()), ((), ()))) s0_Steps s0_Strides s0_Broken) ?_ (fun g => by kernel_rfl)
    simp only [s_clWays_t0]; repeat (first | exact Tail.const _ | exact Tail.here _ | exact Tail.there (Tail.here _) | exact Tail.there (Tail.there (Tail.here _)) | exact Tail.there (Tail.there (Tail.there (Tail.here _))) | exact Tail.there (Tail.there (Tail.there (Tail.there (Tail.here _)))) | exact Tail.there (Tail.there (Tail.there (Tail.there (Tail.there (Tail.here _))))) | apply Tail.cond | (apply Tail.bind; intro _))
noncomputable def s_clWays_L1 (b0_0 : Int) (r1 : List (Int)) (r2 : List (Int)) (r3 : List (Int)) (step4 : Int) : Option (List Int) := c_s_clWays.L.1 (((b0_0, (), (), ()), r1, r2, r3, ()), ((), (), step4, ()), ((), ()))
noncomputable def s_clWays_L2 (b0_0 : Int) (r1 : List (Int)) (r2 : List (Int)) (r3 : List (Int)) (step4 : Int) (s28 : Int) (s29 : Int) : Option (List Int) := c_s_clWays.L.2.1 (((b0_0, (), (), ()), r1, r2, r3, ()), ((), (), step4, (), s28, s29, ()), ((), ()))
theorem s_clWays_u1 (b0_0 : Int) (r1 : List (Int)) (r2 : List (Int)) (r3 : List (Int)) (step4 : Int) : s_clWays_L1 b0_0 r1 r2 r3 step4 = s_clWays_t1 s_clWays_L1 s_clWays_L2 b0_0 r1 r2 r3 step4 :=
  (congrArg (fun g => g.1 (((b0_0, (), (), ()), r1, r2, r3, ()), ((), (), step4, ()), ((), ()))) (FnCx.L_eq s_clWays_ts)).trans (by kernel_rfl)
theorem s_clWays_u2 (b0_0 : Int) (r1 : List (Int)) (r2 : List (Int)) (r3 : List (Int)) (step4 : Int) (s28 : Int) (s29 : Int) : s_clWays_L2 b0_0 r1 r2 r3 step4 s28 s29 = s_clWays_t2 s_clWays_L1 s_clWays_L2 b0_0 r1 r2 r3 step4 s28 s29 :=
  (congrArg (fun g => g.2.1 (((b0_0, (), (), ()), r1, r2, r3, ()), ((), (), step4, (), s28, s29, ()), ((), ()))) (FnCx.L_eq s_clWays_ts)).trans (by kernel_rfl)
noncomputable def s_clWays (s0_Steps : Int) (s0_Strides : List Int) (s0_Broken : List Int) : Option (List Int) := s_clWays_t0 s_clWays_L1 s_clWays_L2 s0_Steps s0_Strides s0_Broken
theorem s_clWays_e (s0_Steps : Int) (s0_Strides : List Int) (s0_Broken : List Int) : c_s_clWays.start c_s_clWays.L ((s0_Steps, s0_Strides, s0_Broken), ()) = s_clWays s0_Steps s0_Strides s0_Broken := by kernel_rfl
noncomputable def F_s_clWays : Ins c_s_clWays.ins → Option (List Int) := fun x => s_clWays x.1.1 x.1.2.1 x.1.2.2
noncomputable def S_s_clWays : FSpec := mkF c_s_clWays.env.pre c_s_clWays.ins c_s_clWays.out c_s_clWays.inj F_s_clWays
theorem h_s_clWays : Cert Tryz.prog 73 S_s_clWays := FnCx.certF (c := c_s_clWays) F_s_clWays (tyOk _ _ _) (spOk ⟨h_s_clStands, fun _ _ h => h, ⟨h_s_l1Least, fun _ _ h => h, trivial⟩⟩) (fun _ _ _ _ _ hs => evDr_ok (tyOk _ _ _) hs follows) Tryz.func73 rfl rfl Tryz.ntmps73 (by kernel_rfl) rfl rfl (fun _ => rfl) s_clWays_ts s_clWays_hs (fun x t hb ht => by
  obtain ⟨⟨s0_Steps, s0_Strides, s0_Broken⟩, _⟩ := x
  exact (s_clWays_e s0_Steps s0_Strides s0_Broken).trans ht)
/-! spec.clLeft -/
noncomputable def c_s_clLeft : FnCx := { env := env 91 [(97, S_s_clStands)] [], body := bodyOf Tryz.f100, res := [.tmp 4], ins := [.ro kStairs, .ro kbool], out := [(kSint, true)], T := List Int, fin := fun r => r.1.1, inj := fun t => ((t, ()), ((), (), ())), pts := [([.inLoop [1, 1, 0, 1, 0, 0], .inBlock 0, .code [1, 1, 1]], Shape.mk [Bs.box 32 [Cs.sc kint, Cs.sl 2, Cs.sl 3], Bs.row kint 3 true, Bs.row kint 3 false, Bs.row kint 3 false] [(1, Ss.one (Cs.sc kbool)), (2, Ss.one (Cs.ptr 0 0)), (5, Ss.one (Cs.sl 1)), (6, Ss.one (Cs.sc kint))] [Ss.one (Cs.any), Ss.one (Cs.any)]), ([.inLoop [1, 1, 0, 1, 0, 0, 1, 0, 0, 1, 1, 1, 0, 0], .inBlock 2, .inBlock 1, .code [1, 1, 0, 1, 0, 0, 1, 1], .inLoop [1, 1, 0, 1, 0, 0], .inBlock 0, .code [1, 1, 1]], Shape.mk [Bs.box 32 [Cs.sc kint, Cs.sl 2, Cs.sl 3], Bs.row kint 3 true, Bs.row kint 3 false, Bs.row kint 3 false] [(1, Ss.one (Cs.sc kbool)), (2, Ss.one (Cs.ptr 0 0)), (5, Ss.one (Cs.sl 1)), (6, Ss.one (Cs.sc kint)), (29, Ss.one (Cs.sl 2)), (30, Ss.one (Cs.sc kint)), (31, Ss.one (Cs.sc kint))] [Ss.one (Cs.any), Ss.one (Cs.any)])], fuel := 400, dr := noDr }
noncomputable def s_clLeft_t1 (g1 : Int → List (Int) → List (Int) → List (Int) → Bool → Int → Option (List Int)) (g2 : Int → List (Int) → List (Int) → List (Int) → Bool → Int → Int → Int → Option (List Int)) (b0_0 : Int) (r1 : List (Int)) (r2 : List (Int)) (r3 : List (Int)) (most1 : Bool) (step6 : Int) : Option (List Int) :=
  bif decide (step6 ≥ 0) then
    bif decide (0 ≤ step6) then
      bif decide (step6 < (↑(List.length r1) : Int)) then
        bif !s_clStands b0_0 r2 r3 step6 then g1 b0_0 (List.set r1 (Int.toNat step6) (-1)) r2 r3 most1 (IntKind.wrap IntKind.i64 (step6 - 1))
        else g2 b0_0 (List.set r1 (Int.toNat step6) (-1)) r2 r3 most1 step6 (↑(List.length r2) : Int) 0
      else none
    else none
  else some r1
noncomputable def s_clLeft_t2 (g1 : Int → List (Int) → List (Int) → List (Int) → Bool → Int → Option (List Int)) (g2 : Int → List (Int) → List (Int) → List (Int) → Bool → Int → Int → Int → Option (List Int)) (b0_0 : Int) (r1 : List (Int)) (r2 : List (Int)) (r3 : List (Int)) (most1 : Bool) (step6 : Int) (s30 : Int) (s31 : Int) : Option (List Int) :=
  bif decide (s31 < s30) then
    bif decide (0 ≤ s31) then
      bif decide (s31 < (↑(List.length r2) : Int)) then
        bif decide (IntKind.wrap IntKind.i64 (step6 + rdk kint r2 s31) > b0_0) then
          g2 b0_0 r1 r2 r3 most1 step6 s30 (IntKind.wrap IntKind.i64 (s31 + 1))
        else
          bif decide (0 ≤ IntKind.wrap IntKind.i64 (step6 + rdk kint r2 s31)) then
            bif decide (IntKind.wrap IntKind.i64 (step6 + rdk kint r2 s31) < (↑(List.length r1) : Int)) then
              bif decide (rdk kint r1 (IntKind.wrap IntKind.i64 (step6 + rdk kint r2 s31)) < 0) then
                g2 b0_0 r1 r2 r3 most1 step6 s30 (IntKind.wrap IntKind.i64 (s31 + 1))
              else
                bif decide (0 ≤ IntKind.wrap IntKind.i64 (step6 + rdk kint r2 s31)) then
                  bif decide (IntKind.wrap IntKind.i64 (step6 + rdk kint r2 s31) < (↑(List.length r1) : Int)) then
                    bif decide (0 ≤ step6) then
                      bif decide (step6 < (↑(List.length r1) : Int)) then
                        bif decide (rdk kint r1 step6 < 0) then
                          bif decide (0 ≤ step6) then
                            bif decide (step6 < (↑(List.length r1) : Int)) then
                              g2 b0_0
                                (List.set r1 (Int.toNat step6)
                                  (IntKind.wrap IntKind.i64
                                    (rdk kint r1 (IntKind.wrap IntKind.i64 (step6 + rdk kint r2 s31)) + 1)))
                                r2 r3 most1 step6 s30 (IntKind.wrap IntKind.i64 (s31 + 1))
                            else none
                          else none
                        else
                          bif !most1 then
                            bif decide (0 ≤ step6) then
                              bif decide (step6 < (↑(List.length r1) : Int)) then
                                bif
                                    decide
                                      (IntKind.wrap IntKind.i64
                                          (rdk kint r1 (IntKind.wrap IntKind.i64 (step6 + rdk kint r2 s31)) + 1) <
                                        rdk kint r1 step6) then
                                  bif decide (0 ≤ step6) then
                                    bif decide (step6 < (↑(List.length r1) : Int)) then
                                      g2 b0_0
                                        (List.set r1 (Int.toNat step6)
                                          (IntKind.wrap IntKind.i64
                                            (rdk kint r1 (IntKind.wrap IntKind.i64 (step6 + rdk kint r2 s31)) + 1)))
                                        r2 r3 most1 step6 s30 (IntKind.wrap IntKind.i64 (s31 + 1))
                                    else none
                                  else none
                                else
                                  bif most1 then
                                    bif decide (0 ≤ step6) then
                                      bif decide (step6 < (↑(List.length r1) : Int)) then
                                        bif
                                            decide
                                              (IntKind.wrap IntKind.i64
                                                  (rdk kint r1 (IntKind.wrap IntKind.i64 (step6 + rdk kint r2 s31)) + 1) >
                                                rdk kint r1 step6) then
                                          bif decide (0 ≤ step6) then
                                            bif decide (step6 < (↑(List.length r1) : Int)) then
                                              g2 b0_0
                                                (List.set r1 (Int.toNat step6)
                                                  (IntKind.wrap IntKind.i64
                                                    (rdk kint r1 (IntKind.wrap IntKind.i64 (step6 + rdk kint r2 s31)) + 1)))
                                                r2 r3 most1 step6 s30 (IntKind.wrap IntKind.i64 (s31 + 1))
                                            else none
                                          else none
                                        else g2 b0_0 r1 r2 r3 most1 step6 s30 (IntKind.wrap IntKind.i64 (s31 + 1))
                                      else none
                                    else none
                                  else g2 b0_0 r1 r2 r3 most1 step6 s30 (IntKind.wrap IntKind.i64 (s31 + 1))
                              else none
                            else none
                          else
                            bif most1 then
                              bif decide (0 ≤ step6) then
                                bif decide (step6 < (↑(List.length r1) : Int)) then
                                  bif
                                      decide
                                        (IntKind.wrap IntKind.i64
                                            (rdk kint r1 (IntKind.wrap IntKind.i64 (step6 + rdk kint r2 s31)) + 1) >
                                          rdk kint r1 step6) then
                                    bif decide (0 ≤ step6) then
                                      bif decide (step6 < (↑(List.length r1) : Int)) then
                                        g2 b0_0
                                          (List.set r1 (Int.toNat step6)
                                            (IntKind.wrap IntKind.i64
                                              (rdk kint r1 (IntKind.wrap IntKind.i64 (step6 + rdk kint r2 s31)) + 1)))
                                          r2 r3 most1 step6 s30 (IntKind.wrap IntKind.i64 (s31 + 1))
                                      else none
                                    else none
                                  else g2 b0_0 r1 r2 r3 most1 step6 s30 (IntKind.wrap IntKind.i64 (s31 + 1))
                                else none
                              else none
                            else g2 b0_0 r1 r2 r3 most1 step6 s30 (IntKind.wrap IntKind.i64 (s31 + 1))
                      else none
                    else none
                  else none
                else none
            else none
          else none
      else none
    else none
  else g1 b0_0 r1 r2 r3 most1 (IntKind.wrap IntKind.i64 (step6 - 1))
noncomputable def s_clLeft_t0 (g1 : Int → List (Int) → List (Int) → List (Int) → Bool → Int → Option (List Int)) (g2 : Int → List (Int) → List (Int) → List (Int) → Bool → Int → Int → Int → Option (List Int)) (s0_Steps : Int) (s0_Strides : List Int) (s0_Broken : List Int) (most1 : Bool) : Option (List Int) :=
  bif IntKind.wrap IntKind.i64 (s0_Steps + 1) == IntKind.wrap IntKind.i64 (s0_Steps + 1) then
    bif decide (0 ≤ IntKind.wrap IntKind.i64 (s0_Steps + 1)) then
      bif decide (IntKind.wrap IntKind.i64 (s0_Steps + 1) ≤ (↑4294967296 : Int)) then
        g1 s0_Steps (List.replicate (Int.toNat (IntKind.wrap IntKind.i64 (s0_Steps + 1))) (Kd.zero kint)) s0_Strides s0_Broken most1
          (IntKind.wrap IntKind.i64 (s0_Steps - 1))
      else none
    else none
  else none
theorem s_clLeft_ts : Tails c_s_clLeft.pts c_s_clLeft.round :=
  ⟨fun s => by
    obtain ⟨⟨⟨b0_0, _, _, _⟩, r1, r2, r3, _⟩, ⟨most1, _, _, step6, _⟩, ⟨_, _, _⟩⟩ := s
    refine Tail.eq (Y := fun g => s_clLeft_t1 (fun b0_0 r1 r2 r3 most1 step6 => g.1 (((b0_0, (), (), ()), r1, r2, r3, ()), (most1, (), (), step6, ()), ((), (), ()))) (fun b0_0 r1 r2 r3 most1 step6 s30 s31 => g.2.1 (((b0_0, (), (), ()), r1, r2, r3, ()), (most1, (), (), step6, (), s30, s31, ()), ((), (), ()))) b0_0 r1 r2 r3 most1 step6) ?_ (fun g => by kernel_rfl)
    simp only [s_clLeft_t1]; repeat (first | exact Tail.const _ | exact Tail.here _ | exact Tail.there (Tail.here _) | exact Tail.there (Tail.there (Tail.here _)) | exact Tail.there (Tail.there (Tail.there (Tail.here _))) | exact Tail.there (Tail.there (Tail.there (Tail.there (Tail.here _)))) | exact Tail.there (Tail.there (Tail.there (Tail.there (Tail.there (Tail.here _))))) | apply Tail.cond | (apply Tail.bind; intro _)),
  fun s => by
    obtain ⟨⟨⟨b0_0, _, _, _⟩, r1, r2, r3, _⟩, ⟨most1, _, _, step6, _, s30, s31, _⟩, ⟨_, _, _⟩⟩ := s
    refine Tail.eq (Y := fun g => s_clLeft_t2 (fun b0_0 r1 r2 r3 most1 step6 => g.1 (((b0_0, (), (), ()), r1, r2, r3, ()), (most1, (), (), step6, ()), ((), (), ()))) (fun b0_0 r1 r2 r3 most1 step6 s30 s31 => g.2.1 (((b0_0, (), (), ()), r1, r2, r3, ()), (most1, (), (), step6, (), s30, s31, ()), ((), (), ()))) b0_0 r1 r2 r3 most1 step6 s30 s31) ?_ (fun g => by kernel_rfl)
    simp only [s_clLeft_t2]; repeat (first | exact Tail.const _ | exact Tail.here _ | exact Tail.there (Tail.here _) | exact Tail.there (Tail.there (Tail.here _)) | exact Tail.there (Tail.there (Tail.there (Tail.here _))) | exact Tail.there (Tail.there (Tail.there (Tail.there (Tail.here _)))) | exact Tail.there (Tail.there (Tail.there (Tail.there (Tail.there (Tail.here _))))) | apply Tail.cond | (apply Tail.bind; intro _)), trivial⟩
theorem s_clLeft_hs : ∀ x, Tail c_s_clLeft.pts (fun g => c_s_clLeft.start g x) := fun x => by
    obtain ⟨⟨s0_Steps, s0_Strides, s0_Broken⟩, most1, _⟩ := x
    refine Tail.eq (Y := fun g => s_clLeft_t0 (fun b0_0 r1 r2 r3 most1 step6 => g.1 (((b0_0, (), (), ()), r1, r2, r3, ()), (most1, (), (), step6, ()), ((), (), ()))) (fun b0_0 r1 r2 r3 most1 step6 s30 s31 => g.2.1 (((b0_0, (), (), ()), r1, r2, r3, ()), (most1, (), (), step6, (), s30, s31, ()), ((), (), ()))) s0_Steps s0_Strides s0_Broken most1) ?_ (fun g => by kernel_rfl)
    simp only [s_clLeft_t0]; repeat (first | exact Tail.const _ | exact Tail.here _ | exact Tail.there (Tail.here _) | exact Tail.there (Tail.there (Tail.here _)) | exact Tail.there (Tail.there (Tail.there (Tail.here _))) | exact Tail.there (Tail.there (Tail.there (Tail.there (Tail.here _)))) | exact Tail.there (Tail.there (Tail.there (Tail.there (Tail.there (Tail.here _))))) | apply Tail.cond | (apply Tail.bind; intro _))
noncomputable def s_clLeft_L1 (b0_0 : Int) (r1 : List (Int)) (r2 : List (Int)) (r3 : List (Int)) (most1 : Bool) (step6 : Int) : Option (List Int) := c_s_clLeft.L.1 (((b0_0, (), (), ()), r1, r2, r3, ()), (most1, (), (), step6, ()), ((), (), ()))
noncomputable def s_clLeft_L2 (b0_0 : Int) (r1 : List (Int)) (r2 : List (Int)) (r3 : List (Int)) (most1 : Bool) (step6 : Int) (s30 : Int) (s31 : Int) : Option (List Int) := c_s_clLeft.L.2.1 (((b0_0, (), (), ()), r1, r2, r3, ()), (most1, (), (), step6, (), s30, s31, ()), ((), (), ()))
theorem s_clLeft_u1 (b0_0 : Int) (r1 : List (Int)) (r2 : List (Int)) (r3 : List (Int)) (most1 : Bool) (step6 : Int) : s_clLeft_L1 b0_0 r1 r2 r3 most1 step6 = s_clLeft_t1 s_clLeft_L1 s_clLeft_L2 b0_0 r1 r2 r3 most1 step6 :=
  (congrArg (fun g => g.1 (((b0_0, (), (), ()), r1, r2, r3, ()), (most1, (), (), step6, ()), ((), (), ()))) (FnCx.L_eq s_clLeft_ts)).trans (by kernel_rfl)
theorem s_clLeft_u2 (b0_0 : Int) (r1 : List (Int)) (r2 : List (Int)) (r3 : List (Int)) (most1 : Bool) (step6 : Int) (s30 : Int) (s31 : Int) : s_clLeft_L2 b0_0 r1 r2 r3 most1 step6 s30 s31 = s_clLeft_t2 s_clLeft_L1 s_clLeft_L2 b0_0 r1 r2 r3 most1 step6 s30 s31 :=
  (congrArg (fun g => g.2.1 (((b0_0, (), (), ()), r1, r2, r3, ()), (most1, (), (), step6, (), s30, s31, ()), ((), (), ()))) (FnCx.L_eq s_clLeft_ts)).trans (by kernel_rfl)
noncomputable def s_clLeft (s0_Steps : Int) (s0_Strides : List Int) (s0_Broken : List Int) (most1 : Bool) : Option (List Int) := s_clLeft_t0 s_clLeft_L1 s_clLeft_L2 s0_Steps s0_Strides s0_Broken most1
theorem s_clLeft_e (s0_Steps : Int) (s0_Strides : List Int) (s0_Broken : List Int) (most1 : Bool) : c_s_clLeft.start c_s_clLeft.L ((s0_Steps, s0_Strides, s0_Broken), most1, ()) = s_clLeft s0_Steps s0_Strides s0_Broken most1 := by kernel_rfl
noncomputable def F_s_clLeft : Ins c_s_clLeft.ins → Option (List Int) := fun x => s_clLeft x.1.1 x.1.2.1 x.1.2.2 x.2.1
noncomputable def S_s_clLeft : FSpec := mkF c_s_clLeft.env.pre c_s_clLeft.ins c_s_clLeft.out c_s_clLeft.inj F_s_clLeft
theorem h_s_clLeft : Cert Tryz.prog 100 S_s_clLeft := FnCx.certF (c := c_s_clLeft) F_s_clLeft (tyOk _ _ _) (spOk ⟨h_s_clStands, fun _ _ h => h, trivial⟩) (fun _ _ _ _ _ hs => noDr_ok) Tryz.func100 rfl rfl Tryz.ntmps100 (by kernel_rfl) rfl rfl (fun _ => rfl) s_clLeft_ts s_clLeft_hs (fun x t hb ht => by
  obtain ⟨⟨s0_Steps, s0_Strides, s0_Broken⟩, most1, _⟩ := x
  exact (s_clLeft_e s0_Steps s0_Strides s0_Broken most1).trans ht)
/-! spec.FewestStrides -/
noncomputable def c_s_FewestStrides : FnCx := { env := env 18 [(99, S_s_clGood), (100, S_s_clLeft)] [], body := bodyOf Tryz.f74, res := [.tmp 2, .tmp 3], ins := [.ro kStairs], out := [(kint, true), (kbool, true)], T := Int × Bool, fin := fun r => (r.1.1, r.1.2.1), inj := fun t => ((t.1, t.2, ()), ((), ())), pts := [], fuel := 400, dr := noDr }
noncomputable def s_FewestStrides (s0_Steps : Int) (s0_Strides : List Int) (s0_Broken : List Int) : Option (Int × Bool) :=
  bif !s_clGood s0_Steps s0_Strides s0_Broken then some (0, false)
  else
    Option.bind (s_clLeft s0_Steps s0_Strides s0_Broken false) fun r =>
      bif decide (0 < (↑(List.length r) : Int)) then
        bif decide (rdk kint r 0 < 0) then some (0, false)
        else
          Option.bind (s_clLeft s0_Steps s0_Strides s0_Broken false) fun r =>
            bif decide (0 < (↑(List.length r) : Int)) then some (rdk kint r 0, true) else none
      else none
theorem s_FewestStrides_e (s0_Steps : Int) (s0_Strides : List Int) (s0_Broken : List Int) : c_s_FewestStrides.start c_s_FewestStrides.L ((s0_Steps, s0_Strides, s0_Broken), ()) = s_FewestStrides s0_Steps s0_Strides s0_Broken := by kernel_rfl
noncomputable def F_s_FewestStrides : Ins c_s_FewestStrides.ins → Option (Int × Bool) := fun x => s_FewestStrides x.1.1 x.1.2.1 x.1.2.2
noncomputable def S_s_FewestStrides : FSpec := mkF c_s_FewestStrides.env.pre c_s_FewestStrides.ins c_s_FewestStrides.out c_s_FewestStrides.inj F_s_FewestStrides
theorem h_s_FewestStrides : Cert Tryz.prog 74 S_s_FewestStrides := FnCx.certF (c := c_s_FewestStrides) F_s_FewestStrides (tyOk _ _ _) (spOk ⟨h_s_clGood, fun _ _ h => h, ⟨h_s_clLeft, fun _ _ h => h, trivial⟩⟩) (fun _ _ _ _ _ hs => noDr_ok) Tryz.func74 rfl rfl Tryz.ntmps74 (by kernel_rfl) rfl rfl (fun _ => rfl) trivial (fun x => .inl ⟨c_s_FewestStrides.start () x, fun _ => rfl⟩) (fun x t hb ht => by
  obtain ⟨⟨s0_Steps, s0_Strides, s0_Broken⟩, _⟩ := x
  exact (s_FewestStrides_e s0_Steps s0_Strides s0_Broken).trans ht)
/-! spec.MostStrides -/
noncomputable def c_s_MostStrides : FnCx := { env := env 18 [(99, S_s_clGood), (100, S_s_clLeft)] [], body := bodyOf Tryz.f76, res := [.tmp 2, .tmp 3], ins := [.ro kStairs], out := [(kint, true), (kbool, true)], T := Int × Bool, fin := fun r => (r.1.1, r.1.2.1), inj := fun t => ((t.1, t.2, ()), ((), ())), pts := [], fuel := 400, dr := noDr }
noncomputable def s_MostStrides (s0_Steps : Int) (s0_Strides : List Int) (s0_Broken : List Int) : Option (Int × Bool) :=
  bif !s_clGood s0_Steps s0_Strides s0_Broken then some (0, false)
  else
    Option.bind (s_clLeft s0_Steps s0_Strides s0_Broken true) fun r =>
      bif decide (0 < (↑(List.length r) : Int)) then
        bif decide (rdk kint r 0 < 0) then some (0, false)
        else
          Option.bind (s_clLeft s0_Steps s0_Strides s0_Broken true) fun r =>
            bif decide (0 < (↑(List.length r) : Int)) then some (rdk kint r 0, true) else none
      else none
theorem s_MostStrides_e (s0_Steps : Int) (s0_Strides : List Int) (s0_Broken : List Int) : c_s_MostStrides.start c_s_MostStrides.L ((s0_Steps, s0_Strides, s0_Broken), ()) = s_MostStrides s0_Steps s0_Strides s0_Broken := by kernel_rfl
noncomputable def F_s_MostStrides : Ins c_s_MostStrides.ins → Option (Int × Bool) := fun x => s_MostStrides x.1.1 x.1.2.1 x.1.2.2
noncomputable def S_s_MostStrides : FSpec := mkF c_s_MostStrides.env.pre c_s_MostStrides.ins c_s_MostStrides.out c_s_MostStrides.inj F_s_MostStrides
theorem h_s_MostStrides : Cert Tryz.prog 76 S_s_MostStrides := FnCx.certF (c := c_s_MostStrides) F_s_MostStrides (tyOk _ _ _) (spOk ⟨h_s_clGood, fun _ _ h => h, ⟨h_s_clLeft, fun _ _ h => h, trivial⟩⟩) (fun _ _ _ _ _ hs => noDr_ok) Tryz.func76 rfl rfl Tryz.ntmps76 (by kernel_rfl) rfl rfl (fun _ => rfl) trivial (fun x => .inl ⟨c_s_MostStrides.start () x, fun _ => rfl⟩) (fun x t hb ht => by
  obtain ⟨⟨s0_Steps, s0_Strides, s0_Broken⟩, _⟩ := x
  exact (s_MostStrides_e s0_Steps s0_Strides s0_Broken).trans ht)
/-! spec.pzValue -/
noncomputable def c_s_pzValue : FnCx := { env := env 44 [(73, S_s_clWays), (74, S_s_FewestStrides), (75, S_s_l1Has), (76, S_s_MostStrides)] [], body := bodyOf Tryz.f43, res := [.tmp 6], ins := [.ro kint, .ro kint, .ro kStairs], out := [(kint, true)], T := Int, fin := fun r => r.1.1, inj := fun t => ((t, ()), ((), (), (), ())), pts := [], fuel := 400, dr := noDr }
noncomputable def s_pzValue (kind0 : Int) (a1 : Int) (s2_Steps : Int) (s2_Strides : List Int) (s2_Broken : List Int) : Option Int :=
  bif kind0 == 0 then
    Option.bind (s_clWays s2_Steps s2_Strides s2_Broken) fun r => bif decide (0 < (↑(List.length r) : Int)) then some (rdk kint r 0) else none
  else
    bif kind0 == 1 then Option.bind (s_FewestStrides s2_Steps s2_Strides s2_Broken) fun r => some (Prod.fst r)
    else
      bif kind0 == 2 then bif s_l1Has_n s2_Strides a1 then some 1 else some 0
      else
        bif kind0 == 3 then bif s_l1Has_n s2_Broken a1 then some 1 else some 0
        else bif kind0 == 4 then some s2_Steps else Option.bind (s_MostStrides s2_Steps s2_Strides s2_Broken) fun r => some (Prod.fst r)
theorem s_pzValue_e (kind0 : Int) (a1 : Int) (s2_Steps : Int) (s2_Strides : List Int) (s2_Broken : List Int) : c_s_pzValue.start c_s_pzValue.L (kind0, a1, (s2_Steps, s2_Strides, s2_Broken), ()) = s_pzValue kind0 a1 s2_Steps s2_Strides s2_Broken := by kernel_rfl
noncomputable def F_s_pzValue : Ins c_s_pzValue.ins → Option Int := fun x => s_pzValue x.1 x.2.1 x.2.2.1.1 x.2.2.1.2.1 x.2.2.1.2.2
noncomputable def S_s_pzValue : FSpec := mkF c_s_pzValue.env.pre c_s_pzValue.ins c_s_pzValue.out c_s_pzValue.inj F_s_pzValue
theorem h_s_pzValue : Cert Tryz.prog 43 S_s_pzValue := FnCx.certF (c := c_s_pzValue) F_s_pzValue (tyOk _ _ _) (spOk ⟨h_s_clWays, fun _ _ h => h, ⟨h_s_FewestStrides, fun _ _ h => h, ⟨h_s_l1Has, fun _ _ h => h, ⟨h_s_MostStrides, fun _ _ h => h, trivial⟩⟩⟩⟩) (fun _ _ _ _ _ hs => noDr_ok) Tryz.func43 rfl rfl Tryz.ntmps43 (by kernel_rfl) rfl rfl (fun _ => rfl) trivial (fun x => .inl ⟨c_s_pzValue.start () x, fun _ => rfl⟩) (fun x t hb ht => by
  obtain ⟨kind0, a1, ⟨s2_Steps, s2_Strides, s2_Broken⟩, _⟩ := x
  exact (s_pzValue_e kind0 a1 s2_Steps s2_Strides s2_Broken).trans ht)
/-! spec.pzFits -/
noncomputable def c_s_pzFits : FnCx := { env := env 14 [(43, S_s_pzValue)] [], body := bodyOf Tryz.f71, res := [.tmp 4], ins := [.ro kClue, .ro kStairs], out := [(kbool, true)], T := Bool, fin := fun r => r.1.1, inj := fun t => ((t, ()), ((), (), ())), pts := [], fuel := 400, dr := evDr (env 14 [(43, S_s_pzValue)] []) }
noncomputable def s_pzFits (c0_Kind : Int) (c0_A : Int) (c0_B : Int) (s1_Steps : Int) (s1_Strides : List Int) (s1_Broken : List Int) : Option Bool :=
  Option.bind (s_pzValue c0_Kind c0_A s1_Steps s1_Strides s1_Broken) fun r => some (r == c0_B)
theorem s_pzFits_e (c0_Kind : Int) (c0_A : Int) (c0_B : Int) (s1_Steps : Int) (s1_Strides : List Int) (s1_Broken : List Int) : c_s_pzFits.start c_s_pzFits.L ((c0_Kind, c0_A, c0_B), (s1_Steps, s1_Strides, s1_Broken), ()) = s_pzFits c0_Kind c0_A c0_B s1_Steps s1_Strides s1_Broken := by kernel_rfl
noncomputable def F_s_pzFits : Ins c_s_pzFits.ins → Option Bool := fun x => s_pzFits x.1.1 x.1.2.1 x.1.2.2 x.2.1.1 x.2.1.2.1 x.2.1.2.2
noncomputable def S_s_pzFits : FSpec := mkF c_s_pzFits.env.pre c_s_pzFits.ins c_s_pzFits.out c_s_pzFits.inj F_s_pzFits
theorem h_s_pzFits : Cert Tryz.prog 71 S_s_pzFits := FnCx.certF (c := c_s_pzFits) F_s_pzFits (tyOk _ _ _) (spOk ⟨h_s_pzValue, fun _ _ h => h, trivial⟩) (fun _ _ _ _ _ hs => evDr_ok (tyOk _ _ _) hs follows) Tryz.func71 rfl rfl Tryz.ntmps71 (by kernel_rfl) rfl rfl (fun _ => rfl) trivial (fun x => .inl ⟨c_s_pzFits.start () x, fun _ => rfl⟩) (fun x t hb ht => by
  obtain ⟨⟨c0_Kind, c0_A, c0_B⟩, ⟨s1_Steps, s1_Strides, s1_Broken⟩, _⟩ := x
  exact (s_pzFits_e c0_Kind c0_A c0_B s1_Steps s1_Strides s1_Broken).trans ht)
/-! slices.Index[[]int,int] -/
noncomputable def c_slices_Index_int : FnCx := { env := env 19 [] [], body := bodyOf Tryz.f72, res := [.tmp 4], ins := [.ro kSint, .ro kint], out := [(kint, true)], T := Int, fin := fun r => r.1.1, inj := fun t => ((t, ()), ((), (), ())), pts := [([.inLoop [1, 0, 1, 0, 0], .inBlock 0, .code [1, 1]], Shape.mk [Bs.row kint 3 false] [(0, Ss.one (Cs.sl 0)), (1, Ss.one (Cs.sc kint)), (7, Ss.one (Cs.sc kint)), (8, Ss.one (Cs.sc kint))] [Ss.one (Cs.any), Ss.one (Cs.any)])], fuel := 400, dr := noDr }
noncomputable def slices_Index_int_t1 (g1 : List (Int) → Int → Int → Int → Option (Int)) (r0 : List (Int)) (v1 : Int) (s7 : Int) (s8 : Int) : Option Int :=
  bif decide (s8 < s7) then
    bif decide (0 ≤ s8) then
      bif decide (s8 < (↑(List.length r0) : Int)) then bif v1 == rdk kint r0 s8 then some s8 else g1 r0 v1 s7 (IntKind.wrap IntKind.i64 (s8 + 1))
      else none
    else none
  else some (-1)
noncomputable def slices_Index_int_t0 (g1 : List (Int) → Int → Int → Int → Option (Int)) (s0 : List Int) (v1 : Int) : Option Int :=
  g1 s0 v1 (↑(List.length s0) : Int) 0
theorem slices_Index_int_ts : Tails c_slices_Index_int.pts c_slices_Index_int.round :=
  ⟨fun s => by
    obtain ⟨⟨r0, _⟩, ⟨_, v1, s7, s8, _⟩, ⟨_, _, _⟩⟩ := s
    refine Tail.eq (Y := fun g => slices_Index_int_t1 (fun r0 v1 s7 s8 => g.1 ((r0, ()), ((), v1, s7, s8, ()), ((), (), ()))) r0 v1 s7 s8) ?_ (fun g => by kernel_rfl)
    simp only [slices_Index_int_t1]; repeat (first | exact Tail.const _ | exact Tail.here _ | exact Tail.there (Tail.here _) | exact Tail.there (Tail.there (Tail.here _)) | exact Tail.there (Tail.there (Tail.there (Tail.here _))) | exact Tail.there (Tail.there (Tail.there (Tail.there (Tail.here _)))) | exact Tail.there (Tail.there (Tail.there (Tail.there (Tail.there (Tail.here _))))) | apply Tail.cond | (apply Tail.bind; intro _)), trivial⟩
theorem slices_Index_int_hs : ∀ x, Tail c_slices_Index_int.pts (fun g => c_slices_Index_int.start g x) := fun x => by
    obtain ⟨s0, v1, _⟩ := x
    refine Tail.eq (Y := fun g => slices_Index_int_t0 (fun r0 v1 s7 s8 => g.1 ((r0, ()), ((), v1, s7, s8, ()), ((), (), ()))) s0 v1) ?_ (fun g => by kernel_rfl)
    simp only [slices_Index_int_t0]; repeat (first | exact Tail.const _ | exact Tail.here _ | exact Tail.there (Tail.here _) | exact Tail.there (Tail.there (Tail.here _)) | exact Tail.there (Tail.there (Tail.there (Tail.here _))) | exact Tail.there (Tail.there (Tail.there (Tail.there (Tail.here _)))) | exact Tail.there (Tail.there (Tail.there (Tail.there (Tail.there (Tail.here _))))) | apply Tail.cond | (apply Tail.bind; intro _))
noncomputable def slices_Index_int_L1 (r0 : List (Int)) (v1 : Int) (s7 : Int) (s8 : Int) : Option Int := c_slices_Index_int.L.1 ((r0, ()), ((), v1, s7, s8, ()), ((), (), ()))
theorem slices_Index_int_u1 (r0 : List (Int)) (v1 : Int) (s7 : Int) (s8 : Int) : slices_Index_int_L1 r0 v1 s7 s8 = slices_Index_int_t1 slices_Index_int_L1 r0 v1 s7 s8 :=
  (congrArg (fun g => g.1 ((r0, ()), ((), v1, s7, s8, ()), ((), (), ()))) (FnCx.L_eq slices_Index_int_ts)).trans (by kernel_rfl)
noncomputable def slices_Index_int (s0 : List Int) (v1 : Int) : Option Int := slices_Index_int_t0 slices_Index_int_L1 s0 v1
theorem slices_Index_int_e (s0 : List Int) (v1 : Int) : c_slices_Index_int.start c_slices_Index_int.L (s0, v1, ()) = slices_Index_int s0 v1 := by kernel_rfl
-- NICE tot
noncomputable def slices_Index_int_n (l : List Int) (v : Int) : Int := idxF (fun x => v == x) l 0
theorem slices_Index_int_ok (l : List Int) (v : Int) (hb : BdI c_slices_Index_int.ins (l, v, ())) : slices_Index_int l v = some (slices_Index_int_n l v) :=
  have hm : l.length ≤ maxLen := hb.1.1
  loop_idx (L := fun i => slices_Index_int_L1 l v l.length (i : Int)) (l := l) (p := fun x => v == x)
    (fun i h => by simp only [slices_Index_int_u1 l v l.length i, slices_Index_int_t1, rdk_get (k := kint) h, wrapS h hm]; simp [h]) (by simp [slices_Index_int_u1 l v l.length l.length, slices_Index_int_t1])
noncomputable def F_slices_Index_int : Ins c_slices_Index_int.ins → Int := fun x => slices_Index_int_n x.1 x.2.1
noncomputable def S_slices_Index_int : FSpec := mkT c_slices_Index_int.env.pre c_slices_Index_int.ins c_slices_Index_int.out c_slices_Index_int.inj F_slices_Index_int
theorem h_slices_Index_int : Cert Tryz.prog 72 S_slices_Index_int := FnCx.certT (c := c_slices_Index_int) F_slices_Index_int (tyOk _ _ _) (spOk trivial) (fun _ _ _ _ _ hs => noDr_ok) Tryz.func72 rfl rfl Tryz.ntmps72 (by kernel_rfl) rfl rfl (fun _ => rfl) slices_Index_int_ts slices_Index_int_hs (fun x hb => by
  obtain ⟨s0, v1, _⟩ := x
  exact (slices_Index_int_e s0 v1).trans (slices_Index_int_ok s0 v1 hb))
/-! slices.Contains[[]int,int] -/
noncomputable def c_slices_Contains_int : FnCx := { env := env 9 [(72, S_slices_Index_int)] [], body := bodyOf Tryz.f42, res := [.tmp 4], ins := [.ro kSint, .ro kint], out := [(kbool, true)], T := Bool, fin := fun r => r.1.1, inj := fun t => ((t, ()), ((), (), ())), pts := [], fuel := 400, dr := noDr }
noncomputable def slices_Contains_int (s0 : List Int) (v1 : Int) : Bool :=
  decide (slices_Index_int_n s0 v1 ≥ 0)
theorem slices_Contains_int_e (s0 : List Int) (v1 : Int) : c_slices_Contains_int.start c_slices_Contains_int.L (s0, v1, ()) = some (slices_Contains_int s0 v1) := by kernel_rfl
theorem slices_Contains_int_eq (l : List Int) (v : Int) : slices_Contains_int l v = decide (v ∈ l) := by
  unfold slices_Contains_int slices_Index_int_n
  rw [idxF_any]
  induction l with
  | nil => rfl
  | cons x l ih => rw [List.any_cons, ih]; by_cases h : v = x <;> simp [h]
noncomputable def F_slices_Contains_int : Ins c_slices_Contains_int.ins → Bool := fun x => slices_Contains_int x.1 x.2.1
noncomputable def S_slices_Contains_int : FSpec := mkT c_slices_Contains_int.env.pre c_slices_Contains_int.ins c_slices_Contains_int.out c_slices_Contains_int.inj F_slices_Contains_int
theorem h_slices_Contains_int : Cert Tryz.prog 42 S_slices_Contains_int := FnCx.certT (c := c_slices_Contains_int) F_slices_Contains_int (tyOk _ _ _) (spOk ⟨h_slices_Index_int, fun _ _ h => h, trivial⟩) (fun _ _ _ _ _ hs => noDr_ok) Tryz.func42 rfl rfl Tryz.ntmps42 (by kernel_rfl) rfl rfl (fun _ => rfl) trivial (fun x => .inl ⟨c_slices_Contains_int.start () x, fun _ => rfl⟩) (fun x hb => by
  obtain ⟨s0, v1, _⟩ := x
  exact slices_Contains_int_e s0 v1)
/-! (impl.Stairs).isBroken -/
noncomputable def c_i_Stairs_isBroken : FnCx := { env := env 9 [(42, S_slices_Contains_int)] [], body := bodyOf Tryz.f108, res := [.tmp 4], ins := [.ro kStairs, .ro kint], out := [(kbool, true)], T := Bool, fin := fun r => r.1.1, inj := fun t => ((t, ()), ((), (), ())), pts := [], fuel := 400, dr := noDr }
noncomputable def i_Stairs_isBroken (s0_Steps : Int) (s0_Strides : List Int) (s0_Broken : List Int) (step1 : Int) : Bool :=
  slices_Contains_int s0_Broken step1
theorem i_Stairs_isBroken_e (s0_Steps : Int) (s0_Strides : List Int) (s0_Broken : List Int) (step1 : Int) : c_i_Stairs_isBroken.start c_i_Stairs_isBroken.L ((s0_Steps, s0_Strides, s0_Broken), step1, ()) = some (i_Stairs_isBroken s0_Steps s0_Strides s0_Broken step1) := by kernel_rfl
noncomputable def F_i_Stairs_isBroken : Ins c_i_Stairs_isBroken.ins → Bool := fun x => i_Stairs_isBroken x.1.1 x.1.2.1 x.1.2.2 x.2.1
noncomputable def S_i_Stairs_isBroken : FSpec := mkT c_i_Stairs_isBroken.env.pre c_i_Stairs_isBroken.ins c_i_Stairs_isBroken.out c_i_Stairs_isBroken.inj F_i_Stairs_isBroken
theorem h_i_Stairs_isBroken : Cert Tryz.prog 108 S_i_Stairs_isBroken := FnCx.certT (c := c_i_Stairs_isBroken) F_i_Stairs_isBroken (tyOk _ _ _) (spOk ⟨h_slices_Contains_int, fun _ _ h => h, trivial⟩) (fun _ _ _ _ _ hs => noDr_ok) Tryz.func108 rfl rfl Tryz.ntmps108 (by kernel_rfl) rfl rfl (fun _ => rfl) trivial (fun x => .inl ⟨c_i_Stairs_isBroken.start () x, fun _ => rfl⟩) (fun x hb => by
  obtain ⟨⟨s0_Steps, s0_Strides, s0_Broken⟩, step1, _⟩ := x
  exact i_Stairs_isBroken_e s0_Steps s0_Strides s0_Broken step1)
/-! (impl.Stairs).up -/
noncomputable def c_i_Stairs_up : FnCx := { env := env 55 [(108, S_i_Stairs_isBroken)] [], body := bodyOf Tryz.f137, res := [.tmp 2], ins := [.ro kStairs], out := [(kSint, true)], T := List Int, fin := fun r => r.1.1, inj := fun t => ((t, ()), ((), ())), pts := [([.inLoop [1, 1, 1, 0, 1, 0, 0], .inBlock 0, .code [1, 1, 1, 1]], Shape.mk [Bs.box 32 [Cs.sc kint, Cs.sl 2, Cs.sl 3], Bs.row kint 3 true, Bs.row kint 3 false, Bs.row kint 3 false] [(1, Ss.one (Cs.ptr 0 0)), (3, Ss.one (Cs.sl 1)), (4, Ss.one (Cs.sc kint))] [Ss.one (Cs.any)]), ([.inLoop [1, 1, 1, 0, 1, 0, 0, 1, 0, 0, 1, 0, 0], .inBlock 2, .inBlock 1, .code [1, 1, 1, 0, 1, 0, 0, 1, 1], .inLoop [1, 1, 1, 0, 1, 0, 0], .inBlock 0, .code [1, 1, 1, 1]], Shape.mk [Bs.box 32 [Cs.sc kint, Cs.sl 2, Cs.sl 3], Bs.row kint 3 true, Bs.row kint 3 false, Bs.row kint 3 false] [(1, Ss.one (Cs.ptr 0 0)), (3, Ss.one (Cs.sl 1)), (4, Ss.one (Cs.sc kint)), (23, Ss.one (Cs.sl 2)), (24, Ss.one (Cs.sc kint)), (25, Ss.one (Cs.sc kint))] [Ss.one (Cs.any)])], fuel := 400, dr := evDr (env 55 [(108, S_i_Stairs_isBroken)] []) }
noncomputable def i_Stairs_up_t1 (g1 : Int → List (Int) → List (Int) → List (Int) → Int → Option (List Int)) (g2 : Int → List (Int) → List (Int) → List (Int) → Int → Int → Int → Option (List Int)) (b0_0 : Int) (r1 : List (Int)) (r2 : List (Int)) (r3 : List (Int)) (k4 : Int) : Option (List Int) :=
  bif decide (k4 ≥ 0) then g2 b0_0 r1 r2 r3 k4 (↑(List.length r2) : Int) 0 else some r1
noncomputable def i_Stairs_up_t2 (g1 : Int → List (Int) → List (Int) → List (Int) → Int → Option (List Int)) (g2 : Int → List (Int) → List (Int) → List (Int) → Int → Int → Int → Option (List Int)) (b0_0 : Int) (r1 : List (Int)) (r2 : List (Int)) (r3 : List (Int)) (k4 : Int) (s24 : Int) (s25 : Int) : Option (List Int) :=
  bif decide (s25 < s24) then
    bif decide (0 ≤ s25) then
      bif decide (s25 < (↑(List.length r2) : Int)) then
        bif decide (IntKind.wrap IntKind.i64 (k4 + rdk kint r2 s25) ≤ b0_0) then
          bif !i_Stairs_isBroken b0_0 r2 r3 k4 then
            bif decide (0 ≤ k4) then
              bif decide (k4 < (↑(List.length r1) : Int)) then
                bif decide (0 ≤ IntKind.wrap IntKind.i64 (k4 + rdk kint r2 s25)) then
                  bif decide (IntKind.wrap IntKind.i64 (k4 + rdk kint r2 s25) < (↑(List.length r1) : Int)) then
                    bif decide (0 ≤ k4) then
                      bif decide (k4 < (↑(List.length r1) : Int)) then
                        g2 b0_0
                          (List.set r1 (Int.toNat k4)
                            (IntKind.wrap IntKind.i64
                              (rdk kint r1 k4 + rdk kint r1 (IntKind.wrap IntKind.i64 (k4 + rdk kint r2 s25)))))
                          r2 r3 k4 s24 (IntKind.wrap IntKind.i64 (s25 + 1))
                      else none
                    else none
                  else none
                else none
              else none
            else none
          else g2 b0_0 r1 r2 r3 k4 s24 (IntKind.wrap IntKind.i64 (s25 + 1))
        else g2 b0_0 r1 r2 r3 k4 s24 (IntKind.wrap IntKind.i64 (s25 + 1))
      else none
    else none
  else g1 b0_0 r1 r2 r3 (IntKind.wrap IntKind.i64 (k4 - 1))
noncomputable def i_Stairs_up_t0 (g1 : Int → List (Int) → List (Int) → List (Int) → Int → Option (List Int)) (g2 : Int → List (Int) → List (Int) → List (Int) → Int → Int → Int → Option (List Int)) (s0_Steps : Int) (s0_Strides : List Int) (s0_Broken : List Int) : Option (List Int) :=
  bif IntKind.wrap IntKind.i64 (s0_Steps + 1) == IntKind.wrap IntKind.i64 (s0_Steps + 1) then
    bif decide (0 ≤ IntKind.wrap IntKind.i64 (s0_Steps + 1)) then
      bif decide (IntKind.wrap IntKind.i64 (s0_Steps + 1) ≤ (↑4294967296 : Int)) then
        bif decide (0 ≤ s0_Steps) then
          bif decide (s0_Steps < (↑(List.length (List.replicate (Int.toNat (IntKind.wrap IntKind.i64 (s0_Steps + 1))) (Kd.zero kint))) : Int)) then
            g1 s0_Steps (List.set (List.replicate (Int.toNat (IntKind.wrap IntKind.i64 (s0_Steps + 1))) (Kd.zero kint)) (Int.toNat s0_Steps) 1) s0_Strides
              s0_Broken (IntKind.wrap IntKind.i64 (s0_Steps - 1))
          else none
        else none
      else none
    else none
  else none
theorem i_Stairs_up_ts : Tails c_i_Stairs_up.pts c_i_Stairs_up.round :=
  ⟨fun s => by
    obtain ⟨⟨⟨b0_0, _, _, _⟩, r1, r2, r3, _⟩, ⟨_, _, k4, _⟩, ⟨_, _⟩⟩ := s
    refine Tail.eq (Y := fun g => i_Stairs_up_t1 (fun b0_0 r1 r2 r3 k4 => g.1 (((b0_0, (), (), ()), r1, r2, r3, ()), ((), (), k4, ()), ((), ()))) (fun b0_0 r1 r2 r3 k4 s24 s25 => g.2.1 (((b0_0, (), (), ()), r1, r2, r3, ()), ((), (), k4, (), s24, s25, ()), ((), ()))) b0_0 r1 r2 r3 k4) ?_ (fun g => by kernel_rfl)
    simp only [i_Stairs_up_t1]; repeat (first | exact Tail.const _ | exact Tail.here _ | exact Tail.there (Tail.here _) | exact Tail.there (Tail.there (Tail.here _)) | exact Tail.there (Tail.there (Tail.there (Tail.here _))) | exact Tail.there (Tail.there (Tail.there (Tail.there (Tail.here _)))) | exact Tail.there (Tail.there (Tail.there (Tail.there (Tail.there (Tail.here _))))) | apply Tail.cond | (apply Tail.bind; intro _)),
  fun s => by
    obtain ⟨⟨⟨b0_0, _, _, _⟩, r1, r2, r3, _⟩, ⟨_, _, k4, _, s24, s25, _⟩, ⟨_, _⟩⟩ := s
    refine Tail.eq (Y := fun g => i_Stairs_up_t2 (fun b0_0 r1 r2 r3 k4 => g.1 (((b0_0, (), (), ()), r1, r2, r3, ()), ((), (), k4, ()), ((), ()))) (fun b0_0 r1 r2 r3 k4 s24 s25 => g.2.1 (((b0_0, (), (), ()), r1, r2, r3, ()), ((), (), k4, (), s24, s25, ()), ((), ()))) b0_0 r1 r2 r3 k4 s24 s25) ?_ (fun g => by kernel_rfl)
    simp only [i_Stairs_up_t2]; repeat (first | exact Tail.const _ | exact Tail.here _ | exact Tail.there (Tail.here _) | exact Tail.there (Tail.there (Tail.here _)) | exact Tail.there (Tail.there (Tail.there (Tail.here _))) | exact Tail.there (Tail.there (Tail.there (Tail.there (Tail.here _)))) | exact Tail.there (Tail.there (Tail.there (Tail.there (Tail.there (Tail.here _))))) | apply Tail.cond | (apply Tail.bind; intro _)), trivial⟩
theorem i_Stairs_up_hs : ∀ x, Tail c_i_Stairs_up.pts (fun g => c_i_Stairs_up.start g x) := fun x => by
    obtain ⟨⟨s0_Steps, s0_Strides, s0_Broken⟩, _⟩ := x
    refine Tail.eq (Y := fun g => i_Stairs_up_t0 (fun b0_0 r1 r2 r3 k4 => g.1 (((b0_0, (), (), ()), r1, r2, r3, ()), ((), (), k4, ()), ((), ()))) (fun b0_0 r1 r2 r3 k4 s24 s25 => g.2.1 (((b0_0, (), (), ()), r1, r2, r3, ()), ((), (), k4, (), s24, s25, ()), ((), ()))) s0_Steps s0_Strides s0_Broken) ?_ (fun g => by kernel_rfl)
    simp only [i_Stairs_up_t0]; repeat (first | exact Tail.const _ | exact Tail.here _ | exact Tail.there (Tail.here _) | exact Tail.there (Tail.there (Tail.here _)) | exact Tail.there (Tail.there (Tail.there (Tail.here _))) | exact Tail.there (Tail.there (Tail.there (Tail.there (Tail.here _)))) | exact Tail.there (Tail.there (Tail.there (Tail.there (Tail.there (Tail.here _))))) | apply Tail.cond | (apply Tail.bind; intro _))
noncomputable def i_Stairs_up_L1 (b0_0 : Int) (r1 : List (Int)) (r2 : List (Int)) (r3 : List (Int)) (k4 : Int) : Option (List Int) := c_i_Stairs_up.L.1 (((b0_0, (), (), ()), r1, r2, r3, ()), ((), (), k4, ()), ((), ()))
noncomputable def i_Stairs_up_L2 (b0_0 : Int) (r1 : List (Int)) (r2 : List (Int)) (r3 : List (Int)) (k4 : Int) (s24 : Int) (s25 : Int) : Option (List Int) := c_i_Stairs_up.L.2.1 (((b0_0, (), (), ()), r1, r2, r3, ()), ((), (), k4, (), s24, s25, ()), ((), ()))
theorem i_Stairs_up_u1 (b0_0 : Int) (r1 : List (Int)) (r2 : List (Int)) (r3 : List (Int)) (k4 : Int) : i_Stairs_up_L1 b0_0 r1 r2 r3 k4 = i_Stairs_up_t1 i_Stairs_up_L1 i_Stairs_up_L2 b0_0 r1 r2 r3 k4 :=
  (congrArg (fun g => g.1 (((b0_0, (), (), ()), r1, r2, r3, ()), ((), (), k4, ()), ((), ()))) (FnCx.L_eq i_Stairs_up_ts)).trans (by kernel_rfl)
theorem i_Stairs_up_u2 (b0_0 : Int) (r1 : List (Int)) (r2 : List (Int)) (r3 : List (Int)) (k4 : Int) (s24 : Int) (s25 : Int) : i_Stairs_up_L2 b0_0 r1 r2 r3 k4 s24 s25 = i_Stairs_up_t2 i_Stairs_up_L1 i_Stairs_up_L2 b0_0 r1 r2 r3 k4 s24 s25 :=
  (congrArg (fun g => g.2.1 (((b0_0, (), (), ()), r1, r2, r3, ()), ((), (), k4, (), s24, s25, ()), ((), ()))) (FnCx.L_eq i_Stairs_up_ts)).trans (by kernel_rfl)
noncomputable def i_Stairs_up (s0_Steps : Int) (s0_Strides : List Int) (s0_Broken : List Int) : Option (List Int) := i_Stairs_up_t0 i_Stairs_up_L1 i_Stairs_up_L2 s0_Steps s0_Strides s0_Broken
theorem i_Stairs_up_e (s0_Steps : Int) (s0_Strides : List Int) (s0_Broken : List Int) : c_i_Stairs_up.start c_i_Stairs_up.L ((s0_Steps, s0_Strides, s0_Broken), ()) = i_Stairs_up s0_Steps s0_Strides s0_Broken := by kernel_rfl
noncomputable def F_i_Stairs_up : Ins c_i_Stairs_up.ins → Option (List Int) := fun x => i_Stairs_up x.1.1 x.1.2.1 x.1.2.2
noncomputable def S_i_Stairs_up : FSpec := mkF c_i_Stairs_up.env.pre c_i_Stairs_up.ins c_i_Stairs_up.out c_i_Stairs_up.inj F_i_Stairs_up
theorem h_i_Stairs_up : Cert Tryz.prog 137 S_i_Stairs_up := FnCx.certF (c := c_i_Stairs_up) F_i_Stairs_up (tyOk _ _ _) (spOk ⟨h_i_Stairs_isBroken, fun _ _ h => h, trivial⟩) (fun _ _ _ _ _ hs => evDr_ok (tyOk _ _ _) hs follows) Tryz.func137 rfl rfl Tryz.ntmps137 (by kernel_rfl) rfl rfl (fun _ => rfl) i_Stairs_up_ts i_Stairs_up_hs (fun x t hb ht => by
  obtain ⟨⟨s0_Steps, s0_Strides, s0_Broken⟩, _⟩ := x
  exact (i_Stairs_up_e s0_Steps s0_Strides s0_Broken).trans ht)
/-! impl.counted -/
noncomputable def c_i_counted : FnCx := { env := env 15 [(29, S_i_AreStairs), (137, S_i_Stairs_up)] [], body := bodyOf Tryz.f123, res := [.tmp 2, .tmp 3], ins := [.ro kStairs], out := [(kSint, true), (kbool, true)], T := List Int × Bool, fin := fun r => (r.1.1, r.1.2.1), inj := fun t => ((t.1, t.2, ()), ((), ())), pts := [], fuel := 400, dr := evDr (env 15 [(29, S_i_AreStairs), (137, S_i_Stairs_up)] []) }
noncomputable def i_counted (s0_Steps : Int) (s0_Strides : List Int) (s0_Broken : List Int) : Option (List Int × Bool) :=
  bif !i_AreStairs s0_Steps s0_Strides s0_Broken then some ([], false)
  else
    Option.bind (i_Stairs_up s0_Steps s0_Strides s0_Broken) fun r =>
      bif decide (0 < (↑(List.length r) : Int)) then some (r, decide (rdk kint r 0 ≤ 1000000000000000)) else none
theorem i_counted_e (s0_Steps : Int) (s0_Strides : List Int) (s0_Broken : List Int) : c_i_counted.start c_i_counted.L ((s0_Steps, s0_Strides, s0_Broken), ()) = i_counted s0_Steps s0_Strides s0_Broken := by kernel_rfl
noncomputable def F_i_counted : Ins c_i_counted.ins → Option (List Int × Bool) := fun x => i_counted x.1.1 x.1.2.1 x.1.2.2
noncomputable def S_i_counted : FSpec := mkF c_i_counted.env.pre c_i_counted.ins c_i_counted.out c_i_counted.inj F_i_counted
theorem h_i_counted : Cert Tryz.prog 123 S_i_counted := FnCx.certF (c := c_i_counted) F_i_counted (tyOk _ _ _) (spOk ⟨h_i_AreStairs, fun _ _ h => h, ⟨h_i_Stairs_up, fun _ _ h => h, trivial⟩⟩) (fun _ _ _ _ _ hs => evDr_ok (tyOk _ _ _) hs follows) Tryz.func123 rfl rfl Tryz.ntmps123 (by kernel_rfl) rfl rfl (fun _ => rfl) trivial (fun x => .inl ⟨c_i_counted.start () x, fun _ => rfl⟩) (fun x t hb ht => by
  obtain ⟨⟨s0_Steps, s0_Strides, s0_Broken⟩, _⟩ := x
  exact (i_counted_e s0_Steps s0_Strides s0_Broken).trans ht)
/-! impl.CountClimbs -/
noncomputable def c_i_CountClimbs : FnCx := { env := env 16 [(123, S_i_counted)] [], body := bodyOf Tryz.f106, res := [.tmp 2, .tmp 3], ins := [.ro kStairs], out := [(kint, true), (kbool, true)], T := Int × Bool, fin := fun r => (r.1.1, r.1.2.1), inj := fun t => ((t.1, t.2, ()), ((), ())), pts := [], fuel := 400, dr := noDr }
noncomputable def i_CountClimbs (s0_Steps : Int) (s0_Strides : List Int) (s0_Broken : List Int) : Option (Int × Bool) :=
  Option.bind (i_counted s0_Steps s0_Strides s0_Broken) fun r =>
    bif !Prod.snd r then some (0, false)
    else bif decide (0 < (↑(List.length (Prod.fst r)) : Int)) then some (rdk kint (Prod.fst r) 0, true) else none
theorem i_CountClimbs_e (s0_Steps : Int) (s0_Strides : List Int) (s0_Broken : List Int) : c_i_CountClimbs.start c_i_CountClimbs.L ((s0_Steps, s0_Strides, s0_Broken), ()) = i_CountClimbs s0_Steps s0_Strides s0_Broken := by kernel_rfl
noncomputable def F_i_CountClimbs : Ins c_i_CountClimbs.ins → Option (Int × Bool) := fun x => i_CountClimbs x.1.1 x.1.2.1 x.1.2.2
noncomputable def S_i_CountClimbs : FSpec := mkF c_i_CountClimbs.env.pre c_i_CountClimbs.ins c_i_CountClimbs.out c_i_CountClimbs.inj F_i_CountClimbs
theorem h_i_CountClimbs : Cert Tryz.prog 106 S_i_CountClimbs := FnCx.certF (c := c_i_CountClimbs) F_i_CountClimbs (tyOk _ _ _) (spOk ⟨h_i_counted, fun _ _ h => h, trivial⟩) (fun _ _ _ _ _ hs => noDr_ok) Tryz.func106 rfl rfl Tryz.ntmps106 (by kernel_rfl) rfl rfl (fun _ => rfl) trivial (fun x => .inl ⟨c_i_CountClimbs.start () x, fun _ => rfl⟩) (fun x t hb ht => by
  obtain ⟨⟨s0_Steps, s0_Strides, s0_Broken⟩, _⟩ := x
  exact (i_CountClimbs_e s0_Steps s0_Strides s0_Broken).trans ht)
/-! (impl.Stairs).byStrides -/
noncomputable def c_i_Stairs_byStrides : FnCx := { env := env 76 [(108, S_i_Stairs_isBroken)] [], body := bodyOf Tryz.f125, res := [.tmp 2], ins := [.ro kStairs], out := [(kSint, true)], T := List Int, fin := fun r => r.1.1, inj := fun t => ((t, ()), ((), ())), pts := [([.inLoop [1, 1, 1, 0, 1, 0, 0], .inBlock 0, .code [1, 1, 1, 1]], Shape.mk [Bs.box 32 [Cs.sc kint, Cs.sl 3, Cs.sl 4], Bs.row kint 3 true, Bs.row kint 3 true, Bs.row kint 3 false, Bs.row kint 3 false] [(1, Ss.one (Cs.ptr 0 0)), (3, Ss.one (Cs.sl 1)), (4, Ss.one (Cs.sl 2)), (19, Ss.one (Cs.sc kint)), (20, Ss.one (Cs.sc kint))] [Ss.one (Cs.any)]), ([.inLoop [1, 1, 1, 0, 1, 0, 0, 1, 1, 0, 0, 1, 1, 0, 1, 0, 0], .inBlock 2, .code [1, 1, 1, 0, 1, 0, 0, 1, 1, 0, 0, 1, 1, 1], .inBlock 1, .code [1, 1, 1, 0, 1, 0, 0, 1, 1, 1], .inLoop [1, 1, 1, 0, 1, 0, 0], .inBlock 0, .code [1, 1, 1, 1]], Shape.mk [Bs.box 32 [Cs.sc kint, Cs.sl 4, Cs.sl 5], Bs.row kint 3 true, Bs.row kint 3 true, Bs.row kint 3 true, Bs.row kint 3 false, Bs.row kint 3 false] [(1, Ss.one (Cs.ptr 0 0)), (3, Ss.one (Cs.sl 1)), (5, Ss.one (Cs.sl 2)), (19, Ss.one (Cs.sc kint)), (20, Ss.one (Cs.sc kint)), (34, Ss.one (Cs.sl 3)), (35, Ss.one (Cs.sc kint)), (36, Ss.one (Cs.sc kint))] [Ss.one (Cs.any)]), ([.inLoop [1, 1, 1, 0, 1, 0, 0, 1, 1, 0, 0, 1, 1, 0, 1, 0, 0, 1, 1, 0, 0, 1, 1, 0, 0], .inBlock 4, .inBlock 3, .code [1, 1, 1, 0, 1, 0, 0, 1, 1, 0, 0, 1, 1, 0, 1, 0, 0, 1, 1, 1], .inLoop [1, 1, 1, 0, 1, 0, 0, 1, 1, 0, 0, 1, 1, 0, 1, 0, 0], .inBlock 2, .code [1, 1, 1, 0, 1, 0, 0, 1, 1, 0, 0, 1, 1, 1], .inBlock 1, .code [1, 1, 1, 0, 1, 0, 0, 1, 1, 1], .inLoop [1, 1, 1, 0, 1, 0, 0], .inBlock 0, .code [1, 1, 1, 1]], Shape.mk [Bs.box 32 [Cs.sc kint, Cs.sl 4, Cs.sl 5], Bs.row kint 3 true, Bs.row kint 3 true, Bs.row kint 3 true, Bs.row kint 3 false, Bs.row kint 3 false] [(1, Ss.one (Cs.ptr 0 0)), (3, Ss.one (Cs.sl 1)), (5, Ss.one (Cs.sl 2)), (6, Ss.one (Cs.sc kint)), (7, Ss.one (Cs.sc kint)), (19, Ss.one (Cs.sc kint)), (20, Ss.one (Cs.sc kint)), (34, Ss.one (Cs.sl 3)), (35, Ss.one (Cs.sc kint)), (36, Ss.one (Cs.sc kint)), (42, Ss.one (Cs.sl 4)), (43, Ss.one (Cs.sc kint)), (44, Ss.one (Cs.sc kint))] [Ss.one (Cs.any)])], fuel := 400, dr := evDr (env 76 [(108, S_i_Stairs_isBroken)] []) }
noncomputable def i_Stairs_byStrides_t1 (g1 : Int → List (Int) → List (Int) → List (Int) → List (Int) → Int → Int → Option (List Int)) (g2 : Int → List (Int) → List (Int) → List (Int) → List (Int) → List (Int) → Int → Int → Int → Int → Option (List Int)) (g3 : Int → List (Int) → List (Int) → List (Int) → List (Int) → List (Int) → Int → Int → Int → Int → Int → Int → Int → Int → Option (List Int)) (b0_0 : Int) (r1 : List (Int)) (r2 : List (Int)) (r3 : List (Int)) (r4 : List (Int)) (s19 : Int) (s20 : Int) : Option (List Int) :=
  bif decide (s20 < s19) then
    bif decide (0 ≤ b0_0) then
      bif decide (b0_0 < (↑(List.length r2) : Int)) then
        bif Nat.ble (List.length r1 + 1) 4294967296 then
          bif IntKind.wrap IntKind.i64 (b0_0 + 1) == IntKind.wrap IntKind.i64 (b0_0 + 1) then
            bif decide (0 ≤ IntKind.wrap IntKind.i64 (b0_0 + 1)) then
              bif decide (IntKind.wrap IntKind.i64 (b0_0 + 1) ≤ (↑4294967296 : Int)) then
                g2 b0_0 (r1 ++ [rdk kint r2 b0_0]) (List.replicate (Int.toNat (IntKind.wrap IntKind.i64 (b0_0 + 1))) (Kd.zero kint)) r2 r3 r4 s19
                  s20 (↑(List.length r2) : Int) 0
              else none
            else none
          else none
        else none
      else none
    else none
  else some r1
noncomputable def i_Stairs_byStrides_t2 (g1 : Int → List (Int) → List (Int) → List (Int) → List (Int) → Int → Int → Option (List Int)) (g2 : Int → List (Int) → List (Int) → List (Int) → List (Int) → List (Int) → Int → Int → Int → Int → Option (List Int)) (g3 : Int → List (Int) → List (Int) → List (Int) → List (Int) → List (Int) → Int → Int → Int → Int → Int → Int → Int → Int → Option (List Int)) (b0_0 : Int) (r1 : List (Int)) (r2 : List (Int)) (r3 : List (Int)) (r4 : List (Int)) (r5 : List (Int)) (s19 : Int) (s20 : Int) (s35 : Int) (s36 : Int) : Option (List Int) :=
  bif decide (s36 < s35) then
    bif decide (0 ≤ s36) then
      bif decide (s36 < (↑(List.length r3) : Int)) then g3 b0_0 r1 r2 r3 r4 r5 s36 (rdk kint r3 s36) s19 s20 s35 s36 (↑(List.length r4) : Int) 0
      else none
    else none
  else g1 b0_0 r1 r2 r4 r5 s19 (IntKind.wrap IntKind.i64 (s20 + 1))
noncomputable def i_Stairs_byStrides_t3 (g1 : Int → List (Int) → List (Int) → List (Int) → List (Int) → Int → Int → Option (List Int)) (g2 : Int → List (Int) → List (Int) → List (Int) → List (Int) → List (Int) → Int → Int → Int → Int → Option (List Int)) (g3 : Int → List (Int) → List (Int) → List (Int) → List (Int) → List (Int) → Int → Int → Int → Int → Int → Int → Int → Int → Option (List Int)) (b0_0 : Int) (r1 : List (Int)) (r2 : List (Int)) (r3 : List (Int)) (r4 : List (Int)) (r5 : List (Int)) (k6 : Int) (ways7 : Int) (s19 : Int) (s20 : Int) (s35 : Int) (s36 : Int) (s43 : Int) (s44 : Int) : Option (List Int) :=
  bif decide (s44 < s43) then
    bif decide (0 ≤ s44) then
      bif decide (s44 < (↑(List.length r4) : Int)) then
        bif decide (IntKind.wrap IntKind.i64 (k6 + rdk kint r4 s44) ≤ b0_0) then
          bif !i_Stairs_isBroken b0_0 r4 r5 (IntKind.wrap IntKind.i64 (k6 + rdk kint r4 s44)) then
            bif decide (0 ≤ IntKind.wrap IntKind.i64 (k6 + rdk kint r4 s44)) then
              bif decide (IntKind.wrap IntKind.i64 (k6 + rdk kint r4 s44) < (↑(List.length r2) : Int)) then
                bif decide (0 ≤ IntKind.wrap IntKind.i64 (k6 + rdk kint r4 s44)) then
                  bif decide (IntKind.wrap IntKind.i64 (k6 + rdk kint r4 s44) < (↑(List.length r2) : Int)) then
                    g3 b0_0 r1
                      (List.set r2 (Int.toNat (IntKind.wrap IntKind.i64 (k6 + rdk kint r4 s44)))
                        (IntKind.wrap IntKind.i64 (rdk kint r2 (IntKind.wrap IntKind.i64 (k6 + rdk kint r4 s44)) + ways7)))
                      r3 r4 r5 k6 ways7 s19 s20 s35 s36 s43 (IntKind.wrap IntKind.i64 (s44 + 1))
                  else none
                else none
              else none
            else none
          else g3 b0_0 r1 r2 r3 r4 r5 k6 ways7 s19 s20 s35 s36 s43 (IntKind.wrap IntKind.i64 (s44 + 1))
        else g3 b0_0 r1 r2 r3 r4 r5 k6 ways7 s19 s20 s35 s36 s43 (IntKind.wrap IntKind.i64 (s44 + 1))
      else none
    else none
  else g2 b0_0 r1 r2 r3 r4 r5 s19 s20 s35 (IntKind.wrap IntKind.i64 (s36 + 1))
noncomputable def i_Stairs_byStrides_t0 (g1 : Int → List (Int) → List (Int) → List (Int) → List (Int) → Int → Int → Option (List Int)) (g2 : Int → List (Int) → List (Int) → List (Int) → List (Int) → List (Int) → Int → Int → Int → Int → Option (List Int)) (g3 : Int → List (Int) → List (Int) → List (Int) → List (Int) → List (Int) → Int → Int → Int → Int → Int → Int → Int → Int → Option (List Int)) (s0_Steps : Int) (s0_Strides : List Int) (s0_Broken : List Int) : Option (List Int) :=
  bif IntKind.wrap IntKind.i64 (s0_Steps + 1) == IntKind.wrap IntKind.i64 (s0_Steps + 1) then
    bif decide (0 ≤ IntKind.wrap IntKind.i64 (s0_Steps + 1)) then
      bif decide (IntKind.wrap IntKind.i64 (s0_Steps + 1) ≤ (↑4294967296 : Int)) then
        bif decide (0 < (↑(List.length (List.replicate (Int.toNat (IntKind.wrap IntKind.i64 (s0_Steps + 1))) (Kd.zero kint))) : Int)) then
          g1 s0_Steps [] (List.set (List.replicate (Int.toNat (IntKind.wrap IntKind.i64 (s0_Steps + 1))) (Kd.zero kint)) (Int.toNat 0) 1) s0_Strides s0_Broken
            (IntKind.wrap IntKind.i64 (s0_Steps + 1)) 0
        else none
      else none
    else none
  else none
theorem i_Stairs_byStrides_ts : Tails c_i_Stairs_byStrides.pts c_i_Stairs_byStrides.round :=
  ⟨fun s => by
    obtain ⟨⟨⟨b0_0, _, _, _⟩, r1, r2, r3, r4, _⟩, ⟨_, _, _, s19, s20, _⟩, ⟨_, _⟩⟩ := s
    refine Tail.eq (Y := fun g => i_Stairs_byStrides_t1 (fun b0_0 r1 r2 r3 r4 s19 s20 => g.1 (((b0_0, (), (), ()), r1, r2, r3, r4, ()), ((), (), (), s19, s20, ()), ((), ()))) (fun b0_0 r1 r2 r3 r4 r5 s19 s20 s35 s36 => g.2.1 (((b0_0, (), (), ()), r1, r2, r3, r4, r5, ()), ((), (), (), s19, s20, (), s35, s36, ()), ((), ()))) (fun b0_0 r1 r2 r3 r4 r5 k6 ways7 s19 s20 s35 s36 s43 s44 => g.2.2.1 (((b0_0, (), (), ()), r1, r2, r3, r4, r5, ()), ((), (), (), k6, ways7, s19, s20, (), s35, s36, (), s43, s44, ()), ((), ()))) b0_0 r1 r2 r3 r4 s19 s20) ?_ (fun g => by kernel_rfl)
    simp only [i_Stairs_byStrides_t1]; repeat (first | exact Tail.const _ | exact Tail.here _ | exact Tail.there (Tail.here _) | exact Tail.there (Tail.there (Tail.here _)) | exact Tail.there (Tail.there (Tail.there (Tail.here _))) | exact Tail.there (Tail.there (Tail.there (Tail.there (Tail.here _)))) | exact Tail.there (Tail.there (Tail.there (Tail.there (Tail.there (Tail.here _))))) | apply Tail.cond | (apply Tail.bind; intro _)),
  fun s => by
    obtain ⟨⟨⟨b0_0, _, _, _⟩, r1, r2, r3, r4, r5, _⟩, ⟨_, _, _, s19, s20, _, s35, s36, _⟩, ⟨_, _⟩⟩ := s
    refine Tail.eq (Y := fun g => i_Stairs_byStrides_t2 (fun b0_0 r1 r2 r3 r4 s19 s20 => g.1 (((b0_0, (), (), ()), r1, r2, r3, r4, ()), ((), (), (), s19, s20, ()), ((), ()))) (fun b0_0 r1 r2 r3 r4 r5 s19 s20 s35 s36 => g.2.1 (((b0_0, (), (), ()), r1, r2, r3, r4, r5, ()), ((), (), (), s19, s20, (), s35, s36, ()), ((), ()))) (fun b0_0 r1 r2 r3 r4 r5 k6 ways7 s19 s20 s35 s36 s43 s44 => g.2.2.1 (((b0_0, (), (), ()), r1, r2, r3, r4, r5, ()), ((), (), (), k6, ways7, s19, s20, (), s35, s36, (), s43, s44, ()), ((), ()))) b0_0 r1 r2 r3 r4 r5 s19 s20 s35 s36) ?_ (fun g => by kernel_rfl)
    simp only [i_Stairs_byStrides_t2]; repeat (first | exact Tail.const _ | exact Tail.here _ | exact Tail.there (Tail.here _) | exact Tail.there (Tail.there (Tail.here _)) | exact Tail.there (Tail.there (Tail.there (Tail.here _))) | exact Tail.there (Tail.there (Tail.there (Tail.there (Tail.here _)))) | exact Tail.there (Tail.there (Tail.there (Tail.there (Tail.there (Tail.here _))))) | apply Tail.cond | (apply Tail.bind; intro _)),
  fun s => by
    obtain ⟨⟨⟨b0_0, _, _, _⟩, r1, r2, r3, r4, r5, _⟩, ⟨_, _, _, k6, ways7, s19, s20, _, s35, s36, _, s43, s44, _⟩, ⟨_, _⟩⟩ := s
    refine Tail.eq (Y := fun g => i_Stairs_byStrides_t3 (fun b0_0 r1 r2 r3 r4 s19 s20 => g.1 (((b0_0, (), (), ()), r1, r2, r3, r4, ()), ((), (), (), s19, s20, ()), ((), ()))) (fun b0_0 r1 r2 r3 r4 r5 s19 s20 s35 s36 => g.2.1 (((b0_0, (), (), ()), r1, r2, r3, r4, r5, ()), ((), (), (), s19, s20, (), s35, s36, ()), ((), ()))) (fun b0_0 r1 r2 r3 r4 r5 k6 ways7 s19 s20 s35 s36 s43 s44 => g.2.2.1 (((b0_0, (), (), ()), r1, r2, r3, r4, r5, ()), ((), (), (), k6, ways7, s19, s20, (), s35, s36, (), s43, s44, ()), ((), ()))) b0_0 r1 r2 r3 r4 r5 k6 ways7 s19 s20 s35 s36 s43 s44) ?_ (fun g => by kernel_rfl)
    simp only [i_Stairs_byStrides_t3]; repeat (first | exact Tail.const _ | exact Tail.here _ | exact Tail.there (Tail.here _) | exact Tail.there (Tail.there (Tail.here _)) | exact Tail.there (Tail.there (Tail.there (Tail.here _))) | exact Tail.there (Tail.there (Tail.there (Tail.there (Tail.here _)))) | exact Tail.there (Tail.there (Tail.there (Tail.there (Tail.there (Tail.here _))))) | apply Tail.cond | (apply Tail.bind; intro _)), trivial⟩
theorem i_Stairs_byStrides_hs : ∀ x, Tail c_i_Stairs_byStrides.pts (fun g => c_i_Stairs_byStrides.start g x) := fun x => by
    obtain ⟨⟨s0_Steps, s0_Strides, s0_Broken⟩, _⟩ := x
    refine Tail.eq (Y := fun g => i_Stairs_byStrides_t0 (fun b0_0 r1 r2 r3 r4 s19 s20 => g.1 (((b0_0, (), (), ()), r1, r2, r3, r4, ()), ((), (), (), s19, s20, ()), ((), ()))) (fun b0_0 r1 r2 r3 r4 r5 s19 s20 s35 s36 => g.2.1 (((b0_0, (), (), ()), r1, r2, r3, r4, r5, ()), ((), (), (), s19, s20, (), s35, s36, ()), ((), ()))) (fun b0_0 r1 r2 r3 r4 r5 k6 ways7 s19 s20 s35 s36 s43 s44 => g.2.2.1 (((b0_0, (), (), ()), r1, r2, r3, r4, r5, ()), ((), (), (), k6, ways7, s19, s20, (), s35, s36, (), s43, s44, ()), ((), ()))) s0_Steps s0_Strides s0_Broken) ?_ (fun g => by kernel_rfl)
    simp only [i_Stairs_byStrides_t0]; repeat (first | exact Tail.const _ | exact Tail.here _ | exact Tail.there (Tail.here _) | exact Tail.there (Tail.there (Tail.here _)) | exact Tail.there (Tail.there (Tail.there (Tail.here _))) | exact Tail.there (Tail.there (Tail.there (Tail.there (Tail.here _)))) | exact Tail.there (Tail.there (Tail.there (Tail.there (Tail.there (Tail.here _))))) | apply Tail.cond | (apply Tail.bind; intro _))
noncomputable def i_Stairs_byStrides_L1 (b0_0 : Int) (r1 : List (Int)) (r2 : List (Int)) (r3 : List (Int)) (r4 : List (Int)) (s19 : Int) (s20 : Int) : Option (List Int) := c_i_Stairs_byStrides.L.1 (((b0_0, (), (), ()), r1, r2, r3, r4, ()), ((), (), (), s19, s20, ()), ((), ()))
noncomputable def i_Stairs_byStrides_L2 (b0_0 : Int) (r1 : List (Int)) (r2 : List (Int)) (r3 : List (Int)) (r4 : List (Int)) (r5 : List (Int)) (s19 : Int) (s20 : Int) (s35 : Int) (s36 : Int) : Option (List Int) := c_i_Stairs_byStrides.L.2.1 (((b0_0, (), (), ()), r1, r2, r3, r4, r5, ()), ((), (), (), s19, s20, (), s35, s36, ()), ((), ()))
noncomputable def i_Stairs_byStrides_L3 (b0_0 : Int) (r1 : List (Int)) (r2 : List (Int)) (r3 : List (Int)) (r4 : List (Int)) (r5 : List (Int)) (k6 : Int) (ways7 : Int) (s19 : Int) (s20 : Int) (s35 : Int) (s36 : Int) (s43 : Int) (s44 : Int) : Option (List Int) := c_i_Stairs_byStrides.L.2.2.1 (((b0_0, (), (), ()), r1, r2, r3, r4, r5, ()), ((), (), (), k6, ways7, s19, s20, (), s35, s36, (), s43, s44, ()), ((), ()))
theorem i_Stairs_byStrides_u1 (b0_0 : Int) (r1 : List (Int)) (r2 : List (Int)) (r3 : List (Int)) (r4 : List (Int)) (s19 : Int) (s20 : Int) : i_Stairs_byStrides_L1 b0_0 r1 r2 r3 r4 s19 s20 = i_Stairs_byStrides_t1 i_Stairs_byStrides_L1 i_Stairs_byStrides_L2 i_Stairs_byStrides_L3 b0_0 r1 r2 r3 r4 s19 s20 :=
  (congrArg (fun g => g.1 (((b0_0, (), (), ()), r1, r2, r3, r4, ()), ((), (), (), s19, s20, ()), ((), ()))) (FnCx.L_eq i_Stairs_byStrides_ts)).trans (by kernel_rfl)
theorem i_Stairs_byStrides_u2 (b0_0 : Int) (r1 : List (Int)) (r2 : List (Int)) (r3 : List (Int)) (r4 : List (Int)) (r5 : List (Int)) (s19 : Int) (s20 : Int) (s35 : Int) (s36 : Int) : i_Stairs_byStrides_L2 b0_0 r1 r2 r3 r4 r5 s19 s20 s35 s36 = i_Stairs_byStrides_t2 i_Stairs_byStrides_L1 i_Stairs_byStrides_L2 i_Stairs_byStrides_L3 b0_0 r1 r2 r3 r4 r5 s19 s20 s35 s36 :=
  (congrArg (fun g => g.2.1 (((b0_0, (), (), ()), r1, r2, r3, r4, r5, ()), ((), (), (), s19, s20, (), s35, s36, ()), ((), ()))) (FnCx.L_eq i_Stairs_byStrides_ts)).trans (by kernel_rfl)
theorem i_Stairs_byStrides_u3 (b0_0 : Int) (r1 : List (Int)) (r2 : List (Int)) (r3 : List (Int)) (r4 : List (Int)) (r5 : List (Int)) (k6 : Int) (ways7 : Int) (s19 : Int) (s20 : Int) (s35 : Int) (s36 : Int) (s43 : Int) (s44 : Int) : i_Stairs_byStrides_L3 b0_0 r1 r2 r3 r4 r5 k6 ways7 s19 s20 s35 s36 s43 s44 = i_Stairs_byStrides_t3 i_Stairs_byStrides_L1 i_Stairs_byStrides_L2 i_Stairs_byStrides_L3 b0_0 r1 r2 r3 r4 r5 k6 ways7 s19 s20 s35 s36 s43 s44 :=
  (congrArg (fun g => g.2.2.1 (((b0_0, (), (), ()), r1, r2, r3, r4, r5, ()), ((), (), (), k6, ways7, s19, s20, (), s35, s36, (), s43, s44, ()), ((), ()))) (FnCx.L_eq i_Stairs_byStrides_ts)).trans (by kernel_rfl)
noncomputable def i_Stairs_byStrides (s0_Steps : Int) (s0_Strides : List Int) (s0_Broken : List Int) : Option (List Int) := i_Stairs_byStrides_t0 i_Stairs_byStrides_L1 i_Stairs_byStrides_L2 i_Stairs_byStrides_L3 s0_Steps s0_Strides s0_Broken
theorem i_Stairs_byStrides_e (s0_Steps : Int) (s0_Strides : List Int) (s0_Broken : List Int) : c_i_Stairs_byStrides.start c_i_Stairs_byStrides.L ((s0_Steps, s0_Strides, s0_Broken), ()) = i_Stairs_byStrides s0_Steps s0_Strides s0_Broken := by kernel_rfl
noncomputable def F_i_Stairs_byStrides : Ins c_i_Stairs_byStrides.ins → Option (List Int) := fun x => i_Stairs_byStrides x.1.1 x.1.2.1 x.1.2.2
noncomputable def S_i_Stairs_byStrides : FSpec := mkF c_i_Stairs_byStrides.env.pre c_i_Stairs_byStrides.ins c_i_Stairs_byStrides.out c_i_Stairs_byStrides.inj F_i_Stairs_byStrides
theorem h_i_Stairs_byStrides : Cert Tryz.prog 125 S_i_Stairs_byStrides := FnCx.certF (c := c_i_Stairs_byStrides) F_i_Stairs_byStrides (tyOk _ _ _) (spOk ⟨h_i_Stairs_isBroken, fun _ _ h => h, trivial⟩) (fun _ _ _ _ _ hs => evDr_ok (tyOk _ _ _) hs follows) Tryz.func125 rfl rfl Tryz.ntmps125 (by kernel_rfl) rfl rfl (fun _ => rfl) i_Stairs_byStrides_ts i_Stairs_byStrides_hs (fun x t hb ht => by
  obtain ⟨⟨s0_Steps, s0_Strides, s0_Broken⟩, _⟩ := x
  exact (i_Stairs_byStrides_e s0_Steps s0_Strides s0_Broken).trans ht)
/-! impl.FewestStrides$1 -/
noncomputable def c_i_FewestStrides_c1 : FnCx := { env := env 5 [] [], body := bodyOf Tryz.f126, res := [.tmp 2], ins := [.ro kint], out := [(kbool, true)], T := Bool, fin := fun r => r.1.1, inj := fun t => ((t, ()), ((), ())), pts := [], fuel := 400, dr := noDr }
noncomputable def i_FewestStrides_c1 (n0 : Int) : Bool :=
  decide (n0 > 0)
theorem i_FewestStrides_c1_e (n0 : Int) : c_i_FewestStrides_c1.start c_i_FewestStrides_c1.L (n0, ()) = some (i_FewestStrides_c1 n0) := by kernel_rfl
noncomputable def F_i_FewestStrides_c1 : Ins c_i_FewestStrides_c1.ins → Bool := fun x => i_FewestStrides_c1 x.1
noncomputable def S_i_FewestStrides_c1 : FSpec := mkT c_i_FewestStrides_c1.env.pre c_i_FewestStrides_c1.ins c_i_FewestStrides_c1.out c_i_FewestStrides_c1.inj F_i_FewestStrides_c1
theorem h_i_FewestStrides_c1 : Cert Tryz.prog 126 S_i_FewestStrides_c1 := FnCx.certT (c := c_i_FewestStrides_c1) F_i_FewestStrides_c1 (tyOk _ _ _) (spOk trivial) (fun _ _ _ _ _ hs => noDr_ok) Tryz.func126 rfl rfl Tryz.ntmps126 (by kernel_rfl) rfl rfl (fun _ => rfl) trivial (fun x => .inl ⟨c_i_FewestStrides_c1.start () x, fun _ => rfl⟩) (fun x hb => by
  obtain ⟨n0, _⟩ := x
  exact i_FewestStrides_c1_e n0)
/-! slices.IndexFunc[[]int,int] -/
noncomputable def c_slices_IndexFunc_int__i_FewestStrides_c1 : FnCx := { env := env 19 [(126, S_i_FewestStrides_c1)] [], body := bodyOf Tryz.f124, res := [.tmp 4], ins := [.ro kSint, .fn 126 []], out := [(kint, true)], T := Int, fin := fun r => r.1.1, inj := fun t => ((t, ()), ((), (), ())), pts := [([.inLoop [1, 0, 1, 0, 0], .inBlock 0, .code [1, 1]], Shape.mk [Bs.row kint 3 false] [(0, Ss.one (Cs.sl 0)), (1, Ss.fn 126 []), (7, Ss.one (Cs.sc kint)), (8, Ss.one (Cs.sc kint))] [Ss.one (Cs.any), Ss.fn 126 []])], fuel := 400, dr := noDr }
noncomputable def slices_IndexFunc_int__i_FewestStrides_c1_t1 (g1 : List (Int) → Int → Int → Option (Int)) (r0 : List (Int)) (s7 : Int) (s8 : Int) : Option Int :=
  bif decide (s8 < s7) then
    bif decide (0 ≤ s8) then
      bif decide (s8 < (↑(List.length r0) : Int)) then
        bif i_FewestStrides_c1 (rdk kint r0 s8) then some s8 else g1 r0 s7 (IntKind.wrap IntKind.i64 (s8 + 1))
      else none
    else none
  else some (-1)
noncomputable def slices_IndexFunc_int__i_FewestStrides_c1_t0 (g1 : List (Int) → Int → Int → Option (Int)) (s0 : List Int) : Option Int :=
  g1 s0 (↑(List.length s0) : Int) 0
theorem slices_IndexFunc_int__i_FewestStrides_c1_ts : Tails c_slices_IndexFunc_int__i_FewestStrides_c1.pts c_slices_IndexFunc_int__i_FewestStrides_c1.round :=
  ⟨fun s => by
    obtain ⟨⟨r0, _⟩, ⟨_, _, s7, s8, _⟩, ⟨_, _, _⟩⟩ := s
    refine Tail.eq (Y := fun g => slices_IndexFunc_int__i_FewestStrides_c1_t1 (fun r0 s7 s8 => g.1 ((r0, ()), ((), (), s7, s8, ()), ((), (), ()))) r0 s7 s8) ?_ (fun g => by kernel_rfl)
    simp only [slices_IndexFunc_int__i_FewestStrides_c1_t1]; repeat (first | exact Tail.const _ | exact Tail.here _ | exact Tail.there (Tail.here _) | exact Tail.there (Tail.there (Tail.here _)) | exact Tail.there (Tail.there (Tail.there (Tail.here _))) | exact Tail.there (Tail.there (Tail.there (Tail.there (Tail.here _)))) | exact Tail.there (Tail.there (Tail.there (Tail.there (Tail.there (Tail.here _))))) | apply Tail.cond | (apply Tail.bind; intro _)), trivial⟩
theorem slices_IndexFunc_int__i_FewestStrides_c1_hs : ∀ x, Tail c_slices_IndexFunc_int__i_FewestStrides_c1.pts (fun g => c_slices_IndexFunc_int__i_FewestStrides_c1.start g x) := fun x => by
    obtain ⟨s0, _, _⟩ := x
    refine Tail.eq (Y := fun g => slices_IndexFunc_int__i_FewestStrides_c1_t0 (fun r0 s7 s8 => g.1 ((r0, ()), ((), (), s7, s8, ()), ((), (), ()))) s0) ?_ (fun g => by kernel_rfl)
    simp only [slices_IndexFunc_int__i_FewestStrides_c1_t0]; repeat (first | exact Tail.const _ | exact Tail.here _ | exact Tail.there (Tail.here _) | exact Tail.there (Tail.there (Tail.here _)) | exact Tail.there (Tail.there (Tail.there (Tail.here _))) | exact Tail.there (Tail.there (Tail.there (Tail.there (Tail.here _)))) | exact Tail.there (Tail.there (Tail.there (Tail.there (Tail.there (Tail.here _))))) | apply Tail.cond | (apply Tail.bind; intro _))
noncomputable def slices_IndexFunc_int__i_FewestStrides_c1_L1 (r0 : List (Int)) (s7 : Int) (s8 : Int) : Option Int := c_slices_IndexFunc_int__i_FewestStrides_c1.L.1 ((r0, ()), ((), (), s7, s8, ()), ((), (), ()))
theorem slices_IndexFunc_int__i_FewestStrides_c1_u1 (r0 : List (Int)) (s7 : Int) (s8 : Int) : slices_IndexFunc_int__i_FewestStrides_c1_L1 r0 s7 s8 = slices_IndexFunc_int__i_FewestStrides_c1_t1 slices_IndexFunc_int__i_FewestStrides_c1_L1 r0 s7 s8 :=
  (congrArg (fun g => g.1 ((r0, ()), ((), (), s7, s8, ()), ((), (), ()))) (FnCx.L_eq slices_IndexFunc_int__i_FewestStrides_c1_ts)).trans (by kernel_rfl)
noncomputable def slices_IndexFunc_int__i_FewestStrides_c1 (s0 : List Int) : Option Int := slices_IndexFunc_int__i_FewestStrides_c1_t0 slices_IndexFunc_int__i_FewestStrides_c1_L1 s0
theorem slices_IndexFunc_int__i_FewestStrides_c1_e (s0 : List Int) : c_slices_IndexFunc_int__i_FewestStrides_c1.start c_slices_IndexFunc_int__i_FewestStrides_c1.L (s0, (), ()) = slices_IndexFunc_int__i_FewestStrides_c1 s0 := by kernel_rfl
-- NICE tot
noncomputable def slices_IndexFunc_int__i_FewestStrides_c1_n (l : List Int) : Int := idxF (fun x => i_FewestStrides_c1 x) l 0
theorem slices_IndexFunc_int__i_FewestStrides_c1_ok (l : List Int) (hb : BdI c_slices_IndexFunc_int__i_FewestStrides_c1.ins (l, (), ())) : slices_IndexFunc_int__i_FewestStrides_c1 l = some (slices_IndexFunc_int__i_FewestStrides_c1_n l) :=
  have hm : l.length ≤ maxLen := hb.1.1
  loop_idx (L := fun i => slices_IndexFunc_int__i_FewestStrides_c1_L1 l l.length (i : Int)) (l := l) (p := fun x => i_FewestStrides_c1 x)
    (fun i h => by simp only [slices_IndexFunc_int__i_FewestStrides_c1_u1 l l.length i, slices_IndexFunc_int__i_FewestStrides_c1_t1, rdk_get (k := kint) h, wrapS h hm]; simp [h]) (by simp [slices_IndexFunc_int__i_FewestStrides_c1_u1 l l.length l.length, slices_IndexFunc_int__i_FewestStrides_c1_t1])
noncomputable def F_slices_IndexFunc_int__i_FewestStrides_c1 : Ins c_slices_IndexFunc_int__i_FewestStrides_c1.ins → Int := fun x => slices_IndexFunc_int__i_FewestStrides_c1_n x.1
noncomputable def S_slices_IndexFunc_int__i_FewestStrides_c1 : FSpec := mkT c_slices_IndexFunc_int__i_FewestStrides_c1.env.pre c_slices_IndexFunc_int__i_FewestStrides_c1.ins c_slices_IndexFunc_int__i_FewestStrides_c1.out c_slices_IndexFunc_int__i_FewestStrides_c1.inj F_slices_IndexFunc_int__i_FewestStrides_c1
theorem h_slices_IndexFunc_int__i_FewestStrides_c1 : Cert Tryz.prog 124 S_slices_IndexFunc_int__i_FewestStrides_c1 := FnCx.certT (c := c_slices_IndexFunc_int__i_FewestStrides_c1) F_slices_IndexFunc_int__i_FewestStrides_c1 (tyOk _ _ _) (spOk ⟨h_i_FewestStrides_c1, fun _ _ h => h, trivial⟩) (fun _ _ _ _ _ hs => noDr_ok) Tryz.func124 rfl rfl Tryz.ntmps124 (by kernel_rfl) rfl rfl (fun _ => rfl) slices_IndexFunc_int__i_FewestStrides_c1_ts slices_IndexFunc_int__i_FewestStrides_c1_hs (fun x hb => by
  obtain ⟨s0, _, _⟩ := x
  exact (slices_IndexFunc_int__i_FewestStrides_c1_e s0).trans (slices_IndexFunc_int__i_FewestStrides_c1_ok s0 hb))
/-! impl.FewestStrides -/
noncomputable def c_i_FewestStrides : FnCx := { env := env 14 [(29, S_i_AreStairs), (125, S_i_Stairs_byStrides), (124, S_slices_IndexFunc_int__i_FewestStrides_c1)] [], body := bodyOf Tryz.f107, res := [.tmp 2, .tmp 3], ins := [.ro kStairs], out := [(kint, true), (kbool, true)], T := Int × Bool, fin := fun r => (r.1.1, r.1.2.1), inj := fun t => ((t.1, t.2, ()), ((), ())), pts := [], fuel := 400, dr := noDr }
noncomputable def i_FewestStrides (s0_Steps : Int) (s0_Strides : List Int) (s0_Broken : List Int) : Option (Int × Bool) :=
  bif !i_AreStairs s0_Steps s0_Strides s0_Broken then some (0, false)
  else
    Option.bind (i_Stairs_byStrides s0_Steps s0_Strides s0_Broken) fun r =>
      bif decide (slices_IndexFunc_int__i_FewestStrides_c1_n r < 0) then some (0, false) else some (slices_IndexFunc_int__i_FewestStrides_c1_n r, true)
theorem i_FewestStrides_e (s0_Steps : Int) (s0_Strides : List Int) (s0_Broken : List Int) : c_i_FewestStrides.start c_i_FewestStrides.L ((s0_Steps, s0_Strides, s0_Broken), ()) = i_FewestStrides s0_Steps s0_Strides s0_Broken := by kernel_rfl
noncomputable def F_i_FewestStrides : Ins c_i_FewestStrides.ins → Option (Int × Bool) := fun x => i_FewestStrides x.1.1 x.1.2.1 x.1.2.2
noncomputable def S_i_FewestStrides : FSpec := mkF c_i_FewestStrides.env.pre c_i_FewestStrides.ins c_i_FewestStrides.out c_i_FewestStrides.inj F_i_FewestStrides
theorem h_i_FewestStrides : Cert Tryz.prog 107 S_i_FewestStrides := FnCx.certF (c := c_i_FewestStrides) F_i_FewestStrides (tyOk _ _ _) (spOk ⟨h_i_AreStairs, fun _ _ h => h, ⟨h_i_Stairs_byStrides, fun _ _ h => h, ⟨h_slices_IndexFunc_int__i_FewestStrides_c1, fun _ _ h => h, trivial⟩⟩⟩) (fun _ _ _ _ _ hs => noDr_ok) Tryz.func107 rfl rfl Tryz.ntmps107 (by kernel_rfl) rfl rfl (fun _ => rfl) trivial (fun x => .inl ⟨c_i_FewestStrides.start () x, fun _ => rfl⟩) (fun x t hb ht => by
  obtain ⟨⟨s0_Steps, s0_Strides, s0_Broken⟩, _⟩ := x
  exact (i_FewestStrides_e s0_Steps s0_Strides s0_Broken).trans ht)
/-! impl.bOf$1 -/
noncomputable def c_i_bOf_c1 : FnCx := { env := env 4 [] [], body := bodyOf Tryz.f105, res := [.tmp 2], ins := [.ro kbool], out := [(kint, true)], T := Int, fin := fun r => r.1.1, inj := fun t => ((t, ()), ((), ())), pts := [], fuel := 400, dr := noDr }
noncomputable def i_bOf_c1 (yes0 : Bool) : Int :=
  bif yes0 then 1 else 0
theorem i_bOf_c1_e (yes0 : Bool) : c_i_bOf_c1.start c_i_bOf_c1.L (yes0, ()) = some (i_bOf_c1 yes0) := by
  refine Eq.trans (b := (bif yes0 then some 1 else some 0 : Option Int)) (by kernel_rfl) ?_
  unfold i_bOf_c1
  repeat (first | rfl | apply condS)
noncomputable def F_i_bOf_c1 : Ins c_i_bOf_c1.ins → Int := fun x => i_bOf_c1 x.1
noncomputable def S_i_bOf_c1 : FSpec := mkT c_i_bOf_c1.env.pre c_i_bOf_c1.ins c_i_bOf_c1.out c_i_bOf_c1.inj F_i_bOf_c1
theorem h_i_bOf_c1 : Cert Tryz.prog 105 S_i_bOf_c1 := FnCx.certT (c := c_i_bOf_c1) F_i_bOf_c1 (tyOk _ _ _) (spOk trivial) (fun _ _ _ _ _ hs => noDr_ok) Tryz.func105 rfl rfl Tryz.ntmps105 (by kernel_rfl) rfl rfl (fun _ => rfl) trivial (fun x => .inl ⟨c_i_bOf_c1.start () x, fun _ => rfl⟩) (fun x hb => by
  obtain ⟨yes0, _⟩ := x
  exact i_bOf_c1_e yes0)
/-! impl.MostStrides -/
noncomputable def c_i_MostStrides : FnCx := { env := env 25 [(29, S_i_AreStairs), (125, S_i_Stairs_byStrides)] [], body := bodyOf Tryz.f109, res := [.tmp 2, .tmp 3], ins := [.ro kStairs], out := [(kint, true), (kbool, true)], T := Int × Bool, fin := fun r => (r.1.1, r.1.2.1), inj := fun t => ((t.1, t.2, ()), ((), ())), pts := [([.inLoop [1, 1, 1, 0, 1, 0, 0], .inBlock 0, .code [1, 1, 1, 1]], Shape.mk [Bs.row kint 3 true] [(4, Ss.one (Cs.sc kint)), (11, Ss.one (Cs.sl 0)), (12, Ss.one (Cs.sc kint)), (13, Ss.one (Cs.sc kint))] [Ss.one (Cs.any)])], fuel := 400, dr := noDr }
noncomputable def i_MostStrides_t1 (g1 : List (Int) → Int → Int → Int → Option (Int × Bool)) (r0 : List (Int)) (best4 : Int) (s12 : Int) (s13 : Int) : Option (Int × Bool) :=
  bif decide (s13 < s12) then
    bif decide (0 ≤ s13) then
      bif decide (s13 < (↑(List.length r0) : Int)) then
        bif decide (rdk kint r0 s13 > 0) then g1 r0 s13 s12 (IntKind.wrap IntKind.i64 (s13 + 1))
        else g1 r0 best4 s12 (IntKind.wrap IntKind.i64 (s13 + 1))
      else none
    else none
  else bif decide (best4 < 0) then some (0, false) else some (best4, true)
noncomputable def i_MostStrides_t0 (g1 : List (Int) → Int → Int → Int → Option (Int × Bool)) (s0_Steps : Int) (s0_Strides : List Int) (s0_Broken : List Int) : Option (Int × Bool) :=
  bif !i_AreStairs s0_Steps s0_Strides s0_Broken then some (0, false)
  else Option.bind (i_Stairs_byStrides s0_Steps s0_Strides s0_Broken) fun r => g1 r (-1) (↑(List.length r) : Int) 0
theorem i_MostStrides_ts : Tails c_i_MostStrides.pts c_i_MostStrides.round :=
  ⟨fun s => by
    obtain ⟨⟨r0, _⟩, ⟨best4, _, s12, s13, _⟩, ⟨_, _⟩⟩ := s
    refine Tail.eq (Y := fun g => i_MostStrides_t1 (fun r0 best4 s12 s13 => g.1 ((r0, ()), (best4, (), s12, s13, ()), ((), ()))) r0 best4 s12 s13) ?_ (fun g => by kernel_rfl)
    simp only [i_MostStrides_t1]; repeat (first | exact Tail.const _ | exact Tail.here _ | exact Tail.there (Tail.here _) | exact Tail.there (Tail.there (Tail.here _)) | exact Tail.there (Tail.there (Tail.there (Tail.here _))) | exact Tail.there (Tail.there (Tail.there (Tail.there (Tail.here _)))) | exact Tail.there (Tail.there (Tail.there (Tail.there (Tail.there (Tail.here _))))) | apply Tail.cond | (apply Tail.bind; intro _)), trivial⟩
theorem i_MostStrides_hs : ∀ x, Tail c_i_MostStrides.pts (fun g => c_i_MostStrides.start g x) := fun x => by
    obtain ⟨⟨s0_Steps, s0_Strides, s0_Broken⟩, _⟩ := x
    refine Tail.eq (Y := fun g => i_MostStrides_t0 (fun r0 best4 s12 s13 => g.1 ((r0, ()), (best4, (), s12, s13, ()), ((), ()))) s0_Steps s0_Strides s0_Broken) ?_ (fun g => by kernel_rfl)
    simp only [i_MostStrides_t0]; repeat (first | exact Tail.const _ | exact Tail.here _ | exact Tail.there (Tail.here _) | exact Tail.there (Tail.there (Tail.here _)) | exact Tail.there (Tail.there (Tail.there (Tail.here _))) | exact Tail.there (Tail.there (Tail.there (Tail.there (Tail.here _)))) | exact Tail.there (Tail.there (Tail.there (Tail.there (Tail.there (Tail.here _))))) | apply Tail.cond | (apply Tail.bind; intro _))
noncomputable def i_MostStrides_L1 (r0 : List (Int)) (best4 : Int) (s12 : Int) (s13 : Int) : Option (Int × Bool) := c_i_MostStrides.L.1 ((r0, ()), (best4, (), s12, s13, ()), ((), ()))
theorem i_MostStrides_u1 (r0 : List (Int)) (best4 : Int) (s12 : Int) (s13 : Int) : i_MostStrides_L1 r0 best4 s12 s13 = i_MostStrides_t1 i_MostStrides_L1 r0 best4 s12 s13 :=
  (congrArg (fun g => g.1 ((r0, ()), (best4, (), s12, s13, ()), ((), ()))) (FnCx.L_eq i_MostStrides_ts)).trans (by kernel_rfl)
noncomputable def i_MostStrides (s0_Steps : Int) (s0_Strides : List Int) (s0_Broken : List Int) : Option (Int × Bool) := i_MostStrides_t0 i_MostStrides_L1 s0_Steps s0_Strides s0_Broken
theorem i_MostStrides_e (s0_Steps : Int) (s0_Strides : List Int) (s0_Broken : List Int) : c_i_MostStrides.start c_i_MostStrides.L ((s0_Steps, s0_Strides, s0_Broken), ()) = i_MostStrides s0_Steps s0_Strides s0_Broken := by kernel_rfl
noncomputable def F_i_MostStrides : Ins c_i_MostStrides.ins → Option (Int × Bool) := fun x => i_MostStrides x.1.1 x.1.2.1 x.1.2.2
noncomputable def S_i_MostStrides : FSpec := mkF c_i_MostStrides.env.pre c_i_MostStrides.ins c_i_MostStrides.out c_i_MostStrides.inj F_i_MostStrides
theorem h_i_MostStrides : Cert Tryz.prog 109 S_i_MostStrides := FnCx.certF (c := c_i_MostStrides) F_i_MostStrides (tyOk _ _ _) (spOk ⟨h_i_AreStairs, fun _ _ h => h, ⟨h_i_Stairs_byStrides, fun _ _ h => h, trivial⟩⟩) (fun _ _ _ _ _ hs => noDr_ok) Tryz.func109 rfl rfl Tryz.ntmps109 (by kernel_rfl) rfl rfl (fun _ => rfl) i_MostStrides_ts i_MostStrides_hs (fun x t hb ht => by
  obtain ⟨⟨s0_Steps, s0_Strides, s0_Broken⟩, _⟩ := x
  exact (i_MostStrides_e s0_Steps s0_Strides s0_Broken).trans ht)
/-! impl.bOf -/
noncomputable def c_i_bOf : FnCx := { env := env 51 [(106, S_i_CountClimbs), (107, S_i_FewestStrides), (42, S_slices_Contains_int), (105, S_i_bOf_c1), (108, S_i_Stairs_isBroken), (109, S_i_MostStrides)] [], body := bodyOf Tryz.f84, res := [.tmp 6], ins := [.ro kStairs, .ro kint, .ro kint], out := [(kint, true)], T := Int, fin := fun r => r.1.1, inj := fun t => ((t, ()), ((), (), (), ())), pts := [], fuel := 400, dr := noDr }
noncomputable def i_bOf (s0_Steps : Int) (s0_Strides : List Int) (s0_Broken : List Int) (kind1 : Int) (a2 : Int) : Option Int :=
  bif kind1 == 0 then Option.bind (i_CountClimbs s0_Steps s0_Strides s0_Broken) fun r => some (Prod.fst r)
  else
    bif kind1 == 1 then Option.bind (i_FewestStrides s0_Steps s0_Strides s0_Broken) fun r => some (Prod.fst r)
    else
      bif kind1 == 2 then some (i_bOf_c1 (slices_Contains_int s0_Strides a2))
      else
        bif kind1 == 3 then some (i_bOf_c1 (i_Stairs_isBroken s0_Steps s0_Strides s0_Broken a2))
        else
          bif kind1 == 4 then some s0_Steps
          else bif kind1 == 5 then Option.bind (i_MostStrides s0_Steps s0_Strides s0_Broken) fun r => some (Prod.fst r) else some 0
theorem i_bOf_e (s0_Steps : Int) (s0_Strides : List Int) (s0_Broken : List Int) (kind1 : Int) (a2 : Int) : c_i_bOf.start c_i_bOf.L ((s0_Steps, s0_Strides, s0_Broken), kind1, a2, ()) = i_bOf s0_Steps s0_Strides s0_Broken kind1 a2 := by kernel_rfl
noncomputable def F_i_bOf : Ins c_i_bOf.ins → Option Int := fun x => i_bOf x.1.1 x.1.2.1 x.1.2.2 x.2.1 x.2.2.1
noncomputable def S_i_bOf : FSpec := mkF c_i_bOf.env.pre c_i_bOf.ins c_i_bOf.out c_i_bOf.inj F_i_bOf
theorem h_i_bOf : Cert Tryz.prog 84 S_i_bOf := FnCx.certF (c := c_i_bOf) F_i_bOf (tyOk _ _ _) (spOk ⟨h_i_CountClimbs, fun _ _ h => h, ⟨h_i_FewestStrides, fun _ _ h => h, ⟨h_slices_Contains_int, fun _ _ h => h, ⟨h_i_bOf_c1, fun _ _ h => h, ⟨h_i_Stairs_isBroken, fun _ _ h => h, ⟨h_i_MostStrides, fun _ _ h => h, trivial⟩⟩⟩⟩⟩⟩) (fun _ _ _ _ _ hs => noDr_ok) Tryz.func84 rfl rfl Tryz.ntmps84 (by kernel_rfl) rfl rfl (fun _ => rfl) trivial (fun x => .inl ⟨c_i_bOf.start () x, fun _ => rfl⟩) (fun x t hb ht => by
  obtain ⟨⟨s0_Steps, s0_Strides, s0_Broken⟩, kind1, a2, _⟩ := x
  exact (i_bOf_e s0_Steps s0_Strides s0_Broken kind1 a2).trans ht)
/-! impl.fits -/
noncomputable def c_i_fits : FnCx := { env := env 14 [(84, S_i_bOf)] [], body := bodyOf Tryz.f56, res := [.tmp 4], ins := [.ro kClue, .ro kStairs], out := [(kbool, true)], T := Bool, fin := fun r => r.1.1, inj := fun t => ((t, ()), ((), (), ())), pts := [], fuel := 400, dr := evDr (env 14 [(84, S_i_bOf)] []) }
noncomputable def i_fits (c0_Kind : Int) (c0_A : Int) (c0_B : Int) (s1_Steps : Int) (s1_Strides : List Int) (s1_Broken : List Int) : Option Bool :=
  Option.bind (i_bOf s1_Steps s1_Strides s1_Broken c0_Kind c0_A) fun r => some (r == c0_B)
theorem i_fits_e (c0_Kind : Int) (c0_A : Int) (c0_B : Int) (s1_Steps : Int) (s1_Strides : List Int) (s1_Broken : List Int) : c_i_fits.start c_i_fits.L ((c0_Kind, c0_A, c0_B), (s1_Steps, s1_Strides, s1_Broken), ()) = i_fits c0_Kind c0_A c0_B s1_Steps s1_Strides s1_Broken := by kernel_rfl
noncomputable def F_i_fits : Ins c_i_fits.ins → Option Bool := fun x => i_fits x.1.1 x.1.2.1 x.1.2.2 x.2.1.1 x.2.1.2.1 x.2.1.2.2
noncomputable def S_i_fits : FSpec := mkF c_i_fits.env.pre c_i_fits.ins c_i_fits.out c_i_fits.inj F_i_fits
theorem h_i_fits : Cert Tryz.prog 56 S_i_fits := FnCx.certF (c := c_i_fits) F_i_fits (tyOk _ _ _) (spOk ⟨h_i_bOf, fun _ _ h => h, trivial⟩) (fun _ _ _ _ _ hs => evDr_ok (tyOk _ _ _) hs follows) Tryz.func56 rfl rfl Tryz.ntmps56 (by kernel_rfl) rfl rfl (fun _ => rfl) trivial (fun x => .inl ⟨c_i_fits.start () x, fun _ => rfl⟩) (fun x t hb ht => by
  obtain ⟨⟨c0_Kind, c0_A, c0_B⟩, ⟨s1_Steps, s1_Strides, s1_Broken⟩, _⟩ := x
  exact (i_fits_e c0_Kind c0_A c0_B s1_Steps s1_Strides s1_Broken).trans ht)
end Go.Proofs.YtoldoplpnkojdaaGreatDoor.V
