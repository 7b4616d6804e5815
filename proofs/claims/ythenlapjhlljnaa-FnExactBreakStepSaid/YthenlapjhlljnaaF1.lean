/- Functions of the program, as plain functions. No condition. -/
import Derived.Test.YthenlapjhlljnaaTyF
set_option linter.unusedVariables false
set_option linter.unusedSimpArgs false
set_option maxRecDepth 100000
namespace Go.Proofs.Ythenlapjhlljnaa.V
open Go Go.Ev Go.Proofs
/-! laws.szIntS -/
noncomputable def c_w_szIntS : FnCx := { env := env 12 [] [], body := bodyOf Try.f262, res := [.tmp 4], ins := [.ro kSint, .ro kint], out := [(kint, true)], T := Int, fin := fun r => r.1.1, inj := fun t => ((t, ()), ((), (), ())), pts := [], fuel := 400, dr := noDr }
noncomputable def w_szIntS (a0 : List Int) (left1 : Int) : Int :=
  bif decide (IntKind.wrap IntKind.i64 (left1 - (↑(List.length a0) : Int)) < 0) then -1 else IntKind.wrap IntKind.i64 (left1 - (↑(List.length a0) : Int))
theorem w_szIntS_e (a0 : List Int) (left1 : Int) : c_w_szIntS.start c_w_szIntS.L (a0, left1, ()) = some (w_szIntS a0 left1) := by
  refine Eq.trans (b := (bif decide (IntKind.wrap IntKind.i64 (left1 - (↑(List.length a0) : Int)) < 0) then some (-1) else some (IntKind.wrap IntKind.i64 (left1 - (↑(List.length a0) : Int))) : Option Int)) (by kernel_rfl) ?_
  unfold w_szIntS
  repeat (first | rfl | apply condS)
noncomputable def F_w_szIntS : Ins c_w_szIntS.ins → Int := fun x => w_szIntS x.1 x.2.1
noncomputable def S_w_szIntS : FSpec := mkT c_w_szIntS.env.pre c_w_szIntS.ins c_w_szIntS.out c_w_szIntS.inj F_w_szIntS
theorem h_w_szIntS : Cert Try.prog 262 S_w_szIntS := FnCx.certT (c := c_w_szIntS) F_w_szIntS (tyOk _ _ _) (spOk trivial) (fun _ _ _ _ _ hs => noDr_ok) Try.func262 rfl rfl Try.ntmps262 (by kernel_rfl) rfl rfl (fun _ => rfl) trivial (fun x => .inl ⟨c_w_szIntS.start () x, fun _ => rfl⟩) (fun x hb => by
  obtain ⟨a0, left1, _⟩ := x
  exact w_szIntS_e a0 left1)
/-! laws.szStairs -/
noncomputable def c_w_szStairs : FnCx := { env := env 18 [(262, S_w_szIntS)] [], body := bodyOf Try.f158, res := [.tmp 4], ins := [.ro kwStairs, .ro kint], out := [(kint, true)], T := Int, fin := fun r => r.1.1, inj := fun t => ((t, ()), ((), (), ())), pts := [], fuel := 400, dr := noDr }
noncomputable def w_szStairs (a0_Steps : Int) (a0_Strides : List Int) (a0_Broken : List Int) (left1 : Int) : Int :=
  bif decide (w_szIntS a0_Strides left1 < 0) then -1
  else bif decide (w_szIntS a0_Broken (w_szIntS a0_Strides left1) < 0) then -1 else w_szIntS a0_Broken (w_szIntS a0_Strides left1)
theorem w_szStairs_e (a0_Steps : Int) (a0_Strides : List Int) (a0_Broken : List Int) (left1 : Int) : c_w_szStairs.start c_w_szStairs.L ((a0_Steps, a0_Strides, a0_Broken), left1, ()) = some (w_szStairs a0_Steps a0_Strides a0_Broken left1) := by
  refine Eq.trans (b := (bif decide (w_szIntS a0_Strides left1 < 0) then some (-1) else bif decide (w_szIntS a0_Broken (w_szIntS a0_Strides left1) < 0) then some (-1) else some (w_szIntS a0_Broken (w_szIntS a0_Strides left1)) : Option Int)) (by kernel_rfl) ?_
  unfold w_szStairs
  repeat (first | rfl | apply condS)
noncomputable def F_w_szStairs : Ins c_w_szStairs.ins → Int := fun x => w_szStairs x.1.1 x.1.2.1 x.1.2.2 x.2.1
noncomputable def S_w_szStairs : FSpec := mkT c_w_szStairs.env.pre c_w_szStairs.ins c_w_szStairs.out c_w_szStairs.inj F_w_szStairs
theorem h_w_szStairs : Cert Try.prog 158 S_w_szStairs := FnCx.certT (c := c_w_szStairs) F_w_szStairs (tyOk _ _ _) (spOk ⟨h_w_szIntS, fun _ _ _ => trivial, trivial⟩) (fun _ _ _ _ _ hs => noDr_ok) Try.func158 rfl rfl Try.ntmps158 (by kernel_rfl) rfl rfl (fun _ => rfl) trivial (fun x => .inl ⟨c_w_szStairs.start () x, fun _ => rfl⟩) (fun x hb => by
  obtain ⟨⟨a0_Steps, a0_Strides, a0_Broken⟩, left1, _⟩ := x
  exact w_szStairs_e a0_Steps a0_Strides a0_Broken left1)
/-! laws.toIntS -/
noncomputable def c_w_toIntS : FnCx := { env := env 22 [] [], body := bodyOf Try.f118, res := [.tmp 2], ins := [.ro kSint], out := [(kSint, true)], T := List Int, fin := fun r => r.1.1, inj := fun t => ((t, ()), ((), ())), pts := [([.inLoop [1, 1, 0, 1, 0, 0], .inBlock 0, .code [1, 1, 1]], Shape.mk [Bs.row kint 3 false, Bs.row kint 3 true] [(0, Ss.one (Cs.sl 0)), (3, Ss.one (Cs.sl 1)), (4, Ss.one (Cs.sc kint))] [Ss.one (Cs.any)])], fuel := 400, dr := noDr }
noncomputable def w_toIntS_t1 (g1 : List (Int) → List (Int) → Int → Option (List Int)) (r0 : List (Int)) (r1 : List (Int)) (i4 : Int) : Option (List Int) :=
  bif decide (i4 < (↑(List.length r0) : Int)) then
    bif decide (0 ≤ i4) then
      bif decide (i4 < (↑(List.length r0) : Int)) then
        bif decide (0 ≤ i4) then
          bif decide (i4 < (↑(List.length r1) : Int)) then g1 r0 (List.set r1 (Int.toNat i4) (rdk kint r0 i4)) (IntKind.wrap IntKind.i64 (i4 + 1))
          else none
        else none
      else none
    else none
  else some r1
noncomputable def w_toIntS_t0 (g1 : List (Int) → List (Int) → Int → Option (List Int)) (a0 : List Int) : Option (List Int) :=
  bif (↑(List.length a0) : Int) == (↑(List.length a0) : Int) then
    bif decide ((↑(List.length a0) : Int) ≤ (↑4294967296 : Int)) then g1 a0 (List.replicate (Int.toNat (↑(List.length a0) : Int)) (Kd.zero kint)) 0 else none
  else none
theorem w_toIntS_ts : Tails c_w_toIntS.pts c_w_toIntS.round :=
  ⟨fun s => by
    obtain ⟨⟨r0, r1, _⟩, ⟨_, _, i4, _⟩, ⟨_, _⟩⟩ := s
    refine Tail.eq (Y := fun g => w_toIntS_t1 (fun r0 r1 i4 => g.1 ((r0, r1, ()), ((), (), i4, ()), ((), ()))) r0 r1 i4) ?_ (fun g => by kernel_rfl)
    simp only [w_toIntS_t1]; repeat (first | exact Tail.const _ | exact Tail.here _ | exact Tail.there (Tail.here _) | exact Tail.there (Tail.there (Tail.here _)) | exact Tail.there (Tail.there (Tail.there (Tail.here _))) | exact Tail.there (Tail.there (Tail.there (Tail.there (Tail.here _)))) | exact Tail.there (Tail.there (Tail.there (Tail.there (Tail.there (Tail.here _))))) | apply Tail.cond | (apply Tail.bind; intro _)), trivial⟩
theorem w_toIntS_hs : ∀ x, Tail c_w_toIntS.pts (fun g => c_w_toIntS.start g x) := fun x => by
    obtain ⟨a0, _⟩ := x
    refine Tail.eq (Y := fun g => w_toIntS_t0 (fun r0 r1 i4 => g.1 ((r0, r1, ()), ((), (), i4, ()), ((), ()))) a0) ?_ (fun g => by kernel_rfl)
    simp only [w_toIntS_t0]; repeat (first | exact Tail.const _ | exact Tail.here _ | exact Tail.there (Tail.here _) | exact Tail.there (Tail.there (Tail.here _)) | exact Tail.there (Tail.there (Tail.there (Tail.here _))) | exact Tail.there (Tail.there (Tail.there (Tail.there (Tail.here _)))) | exact Tail.there (Tail.there (Tail.there (Tail.there (Tail.there (Tail.here _))))) | apply Tail.cond | (apply Tail.bind; intro _))
noncomputable def w_toIntS_L1 (r0 : List (Int)) (r1 : List (Int)) (i4 : Int) : Option (List Int) := c_w_toIntS.L.1 ((r0, r1, ()), ((), (), i4, ()), ((), ()))
theorem w_toIntS_u1 (r0 : List (Int)) (r1 : List (Int)) (i4 : Int) : w_toIntS_L1 r0 r1 i4 = w_toIntS_t1 w_toIntS_L1 r0 r1 i4 :=
  (congrArg (fun g => g.1 ((r0, r1, ()), ((), (), i4, ()), ((), ()))) (FnCx.L_eq w_toIntS_ts)).trans (by kernel_rfl)
noncomputable def w_toIntS (a0 : List Int) : Option (List Int) := w_toIntS_t0 w_toIntS_L1 a0
theorem w_toIntS_e (a0 : List Int) : c_w_toIntS.start c_w_toIntS.L (a0, ()) = w_toIntS a0 := by kernel_rfl
-- NICE opt
noncomputable def w_toIntS_n (a0 : List Int) : Option (List Int) := bif decide (a0.length ≤ 4294967296) then some a0 else none
theorem w_toIntS_ok (a0 : List Int) (hb : BdI c_w_toIntS.ins (a0, ())) (t : List Int) (ht : w_toIntS_n a0 = some t) : w_toIntS a0 = some t := by
  unfold w_toIntS_n at ht
  cases h : decide (a0.length ≤ 4294967296)
  · rw [h] at ht; cases ht
  · rw [h] at ht; cases ht
    have h := of_decide_eq_true h
    have e := loop_set (L := fun i r => w_toIntS_L1 a0 r (i : Int)) (l := a0) (f := id) (e := id)
      (fun i h r hr => by
        simp only [w_toIntS_u1 a0 r i, w_toIntS_t1, rdk_get (k := kint) h, wrapS h hb.1.1, Int.toNat_natCast]
        simp [h, hr])
      (fun r => by simp [w_toIntS_u1 a0 r a0.length, w_toIntS_t1]) (List.replicate a0.length (Kd.zero kint)) (by simp)
    have h' : ((a0.length : Int) ≤ 4294967296) := by omega
    simp [w_toIntS, w_toIntS_t0, h']
    simpa using e
noncomputable def F_w_toIntS : Ins c_w_toIntS.ins → Option (List Int) := fun x => w_toIntS_n x.1
noncomputable def S_w_toIntS : FSpec := mkF c_w_toIntS.env.pre c_w_toIntS.ins c_w_toIntS.out c_w_toIntS.inj F_w_toIntS
theorem h_w_toIntS : Cert Try.prog 118 S_w_toIntS := FnCx.certF (c := c_w_toIntS) F_w_toIntS (tyOk _ _ _) (spOk trivial) (fun _ _ _ _ _ hs => noDr_ok) Try.func118 rfl rfl Try.ntmps118 (by kernel_rfl) rfl rfl (fun _ => rfl) w_toIntS_ts w_toIntS_hs (fun x t hb ht => by
  obtain ⟨a0, _⟩ := x
  exact (w_toIntS_e a0).trans (w_toIntS_ok a0 hb t ht))
/-! laws.toStairs -/
noncomputable def c_w_toStairs : FnCx := { env := env 16 [(118, S_w_toIntS)] [], body := bodyOf Try.f160, res := [.cell 2 96], ins := [.ro kwStairs], out := [(kStairs, true)], T := (Int × List Int × List Int), fin := fun r => r.1.1, inj := fun t => ((t, ()), ((), ())), pts := [], fuel := 400, dr := noDr }
noncomputable def w_toStairs (a0_Steps : Int) (a0_Strides : List Int) (a0_Broken : List Int) : Option ((Int × List Int × List Int)) :=
  Option.bind (w_toIntS_n a0_Strides) fun r => Option.bind (w_toIntS_n a0_Broken) fun r_1 => some (a0_Steps, r, r_1)
theorem w_toStairs_e (a0_Steps : Int) (a0_Strides : List Int) (a0_Broken : List Int) : c_w_toStairs.start c_w_toStairs.L ((a0_Steps, a0_Strides, a0_Broken), ()) = w_toStairs a0_Steps a0_Strides a0_Broken := by kernel_rfl
noncomputable def F_w_toStairs : Ins c_w_toStairs.ins → Option ((Int × List Int × List Int)) := fun x => w_toStairs x.1.1 x.1.2.1 x.1.2.2
noncomputable def S_w_toStairs : FSpec := mkF c_w_toStairs.env.pre c_w_toStairs.ins c_w_toStairs.out c_w_toStairs.inj F_w_toStairs
theorem h_w_toStairs : Cert Try.prog 160 S_w_toStairs := FnCx.certF (c := c_w_toStairs) F_w_toStairs (tyOk _ _ _) (spOk ⟨h_w_toIntS, fun _ _ _ => trivial, trivial⟩) (fun _ _ _ _ _ hs => noDr_ok) Try.func160 rfl rfl Try.ntmps160 (by kernel_rfl) rfl rfl (fun _ => rfl) trivial (fun x => .inl ⟨c_w_toStairs.start () x, fun _ => rfl⟩) (fun x t hb ht => by
  obtain ⟨⟨a0_Steps, a0_Strides, a0_Broken⟩, _⟩ := x
  exact (w_toStairs_e a0_Steps a0_Strides a0_Broken).trans ht)
/-! spec.l1In -/
noncomputable def c_s_l1In : FnCx := { env := env 15 [] [], body := bodyOf Try.f176, res := [.tmp 6], ins := [.ro kint, .ro kint, .ro kint], out := [(kbool, true)], T := Bool, fin := fun r => r.1.1, inj := fun t => ((t, ()), ((), (), (), ())), pts := [], fuel := 400, dr := noDr }
noncomputable def s_l1In (n0 : Int) (lo1 : Int) (hi2 : Int) : Bool :=
  bif decide (n0 ≥ lo1) then decide (n0 ≤ hi2) else false
theorem s_l1In_e (n0 : Int) (lo1 : Int) (hi2 : Int) : c_s_l1In.start c_s_l1In.L (n0, lo1, hi2, ()) = some (s_l1In n0 lo1 hi2) := by
  refine Eq.trans (b := (bif decide (n0 ≥ lo1) then some (decide (n0 ≤ hi2)) else some false : Option Bool)) (by kernel_rfl) ?_
  unfold s_l1In
  repeat (first | rfl | apply condS)
noncomputable def F_s_l1In : Ins c_s_l1In.ins → Bool := fun x => s_l1In x.1 x.2.1 x.2.2.1
noncomputable def S_s_l1In : FSpec := mkT c_s_l1In.env.pre c_s_l1In.ins c_s_l1In.out c_s_l1In.inj F_s_l1In
theorem h_s_l1In : Cert Try.prog 176 S_s_l1In := FnCx.certT (c := c_s_l1In) F_s_l1In (tyOk _ _ _) (spOk trivial) (fun _ _ _ _ _ hs => noDr_ok) Try.func176 rfl rfl Try.ntmps176 (by kernel_rfl) rfl rfl (fun _ => rfl) trivial (fun x => .inl ⟨c_s_l1In.start () x, fun _ => rfl⟩) (fun x hb => by
  obtain ⟨n0, lo1, hi2, _⟩ := x
  exact s_l1In_e n0 lo1 hi2)
/-! spec.l1Rising -/
noncomputable def c_s_l1Rising : FnCx := { env := env 35 [(176, S_s_l1In)] [], body := bodyOf Try.f284, res := [.tmp 6], ins := [.ro kSint, .ro kint, .ro kint], out := [(kbool, true)], T := Bool, fin := fun r => r.1.1, inj := fun t => ((t, ()), ((), (), (), ())), pts := [([.inLoop [1, 0, 1, 0, 0], .inBlock 0, .code [1, 1]], Shape.mk [Bs.row kint 3 false] [(0, Ss.one (Cs.sl 0)), (1, Ss.one (Cs.sc kint)), (2, Ss.one (Cs.sc kint)), (9, Ss.one (Cs.sl 0)), (10, Ss.one (Cs.sc kint)), (11, Ss.one (Cs.sc kint))] [Ss.one (Cs.any), Ss.one (Cs.any), Ss.one (Cs.any)])], fuel := 400, dr := noDr }
noncomputable def s_l1Rising_t1 (g1 : List (Int) → Int → Int → Int → Int → Option (Bool)) (r0 : List (Int)) (lo1 : Int) (hi2 : Int) (s10 : Int) (s11 : Int) : Option Bool :=
  bif decide (s11 < s10) then
    bif decide (0 ≤ s11) then
      bif decide (s11 < (↑(List.length r0) : Int)) then
        bif !s_l1In (rdk kint r0 s11) lo1 hi2 then some false
        else
          bif decide (s11 > 0) then
            bif decide (0 ≤ IntKind.wrap IntKind.i64 (s11 - 1)) then
              bif decide (IntKind.wrap IntKind.i64 (s11 - 1) < (↑(List.length r0) : Int)) then
                bif decide (rdk kint r0 (IntKind.wrap IntKind.i64 (s11 - 1)) ≥ rdk kint r0 s11) then some false
                else g1 r0 lo1 hi2 s10 (IntKind.wrap IntKind.i64 (s11 + 1))
              else none
            else none
          else g1 r0 lo1 hi2 s10 (IntKind.wrap IntKind.i64 (s11 + 1))
      else none
    else none
  else some true
noncomputable def s_l1Rising_t0 (g1 : List (Int) → Int → Int → Int → Int → Option (Bool)) (l0 : List Int) (lo1 : Int) (hi2 : Int) : Option Bool :=
  g1 l0 lo1 hi2 (↑(List.length l0) : Int) 0
theorem s_l1Rising_ts : Tails c_s_l1Rising.pts c_s_l1Rising.round :=
  ⟨fun s => by
    obtain ⟨⟨r0, _⟩, ⟨_, lo1, hi2, _, s10, s11, _⟩, ⟨_, _, _, _⟩⟩ := s
    refine Tail.eq (Y := fun g => s_l1Rising_t1 (fun r0 lo1 hi2 s10 s11 => g.1 ((r0, ()), ((), lo1, hi2, (), s10, s11, ()), ((), (), (), ()))) r0 lo1 hi2 s10 s11) ?_ (fun g => by kernel_rfl)
    simp only [s_l1Rising_t1]; repeat (first | exact Tail.const _ | exact Tail.here _ | exact Tail.there (Tail.here _) | exact Tail.there (Tail.there (Tail.here _)) | exact Tail.there (Tail.there (Tail.there (Tail.here _))) | exact Tail.there (Tail.there (Tail.there (Tail.there (Tail.here _)))) | exact Tail.there (Tail.there (Tail.there (Tail.there (Tail.there (Tail.here _))))) | apply Tail.cond | (apply Tail.bind; intro _)), trivial⟩
theorem s_l1Rising_hs : ∀ x, Tail c_s_l1Rising.pts (fun g => c_s_l1Rising.start g x) := fun x => by
    obtain ⟨l0, lo1, hi2, _⟩ := x
    refine Tail.eq (Y := fun g => s_l1Rising_t0 (fun r0 lo1 hi2 s10 s11 => g.1 ((r0, ()), ((), lo1, hi2, (), s10, s11, ()), ((), (), (), ()))) l0 lo1 hi2) ?_ (fun g => by kernel_rfl)
    simp only [s_l1Rising_t0]; repeat (first | exact Tail.const _ | exact Tail.here _ | exact Tail.there (Tail.here _) | exact Tail.there (Tail.there (Tail.here _)) | exact Tail.there (Tail.there (Tail.there (Tail.here _))) | exact Tail.there (Tail.there (Tail.there (Tail.there (Tail.here _)))) | exact Tail.there (Tail.there (Tail.there (Tail.there (Tail.there (Tail.here _))))) | apply Tail.cond | (apply Tail.bind; intro _))
noncomputable def s_l1Rising_L1 (r0 : List (Int)) (lo1 : Int) (hi2 : Int) (s10 : Int) (s11 : Int) : Option Bool := c_s_l1Rising.L.1 ((r0, ()), ((), lo1, hi2, (), s10, s11, ()), ((), (), (), ()))
theorem s_l1Rising_u1 (r0 : List (Int)) (lo1 : Int) (hi2 : Int) (s10 : Int) (s11 : Int) : s_l1Rising_L1 r0 lo1 hi2 s10 s11 = s_l1Rising_t1 s_l1Rising_L1 r0 lo1 hi2 s10 s11 :=
  (congrArg (fun g => g.1 ((r0, ()), ((), lo1, hi2, (), s10, s11, ()), ((), (), (), ()))) (FnCx.L_eq s_l1Rising_ts)).trans (by kernel_rfl)
noncomputable def s_l1Rising (l0 : List Int) (lo1 : Int) (hi2 : Int) : Option Bool := s_l1Rising_t0 s_l1Rising_L1 l0 lo1 hi2
theorem s_l1Rising_e (l0 : List Int) (lo1 : Int) (hi2 : Int) : c_s_l1Rising.start c_s_l1Rising.L (l0, lo1, hi2, ()) = s_l1Rising l0 lo1 hi2 := by kernel_rfl
-- NICE tot
noncomputable def s_l1Rising_n (l : List Int) (lo hi : Int) : Bool := rising lo hi l
theorem s_l1In_inB (x lo hi : Int) : s_l1In x lo hi = inB lo hi x := by
  unfold s_l1In inB
  cases h1 : decide (lo ≤ x) <;> simp_all
theorem s_l1Rising_ok (l : List Int) (lo hi : Int) (hb : BdI c_s_l1Rising.ins (l, lo, hi, ())) : s_l1Rising l lo hi = some (s_l1Rising_n l lo hi) :=
  have hm : l.length ≤ maxLen := hb.1.1
  loop_prev (L := fun i => s_l1Rising_L1 l lo hi l.length (i : Int)) (l := l) (p := riseP lo hi)
    (fun i h => by
      simp only [s_l1Rising_u1 l lo hi l.length i, s_l1Rising_t1, rdk_get (k := kint) h, wrapS h hm, s_l1In_inB]
      by_cases hi0 : i = 0
      · subst hi0
        simp only [if_true, riseP, ltO, Bool.and_true]
        cases inB lo hi l[0] <;> simp [h]
      · have hl : i - 1 < l.length := by omega
        have hg : 0 < i := by omega
        simp only [wrapP h hm hi0, rdk_get (k := kint) hl, if_neg hi0, riseP, List.getElem?_eq_getElem hl, ltO]
        have e1 : ((l[i - 1] : Int) < l[i]) = ¬ (l[i] ≤ l[i - 1]) := by simp
        cases inB lo hi l[i] <;> by_cases hc : l[i] ≤ l[i - 1] <;> simp [h, hl, hg, hc, e1]) (by simp [s_l1Rising_u1 l lo hi l.length l.length, s_l1Rising_t1])
noncomputable def F_s_l1Rising : Ins c_s_l1Rising.ins → Bool := fun x => s_l1Rising_n x.1 x.2.1 x.2.2.1
noncomputable def S_s_l1Rising : FSpec := mkT c_s_l1Rising.env.pre c_s_l1Rising.ins c_s_l1Rising.out c_s_l1Rising.inj F_s_l1Rising
theorem h_s_l1Rising : Cert Try.prog 284 S_s_l1Rising := FnCx.certT (c := c_s_l1Rising) F_s_l1Rising (tyOk _ _ _) (spOk ⟨h_s_l1In, fun _ _ _ => trivial, trivial⟩) (fun _ _ _ _ _ hs => noDr_ok) Try.func284 rfl rfl Try.ntmps284 (by kernel_rfl) rfl rfl (fun _ => rfl) s_l1Rising_ts s_l1Rising_hs (fun x hb => by
  obtain ⟨l0, lo1, hi2, _⟩ := x
  exact (s_l1Rising_e l0 lo1 hi2).trans (s_l1Rising_ok l0 lo1 hi2 hb))
/-! spec.clGood -/
noncomputable def c_s_clGood : FnCx := { env := env 25 [(176, S_s_l1In), (284, S_s_l1Rising)] [], body := bodyOf Try.f247, res := [.tmp 2], ins := [.ro kStairs], out := [(kbool, true)], T := Bool, fin := fun r => r.1.1, inj := fun t => ((t, ()), ((), ())), pts := [], fuel := 400, dr := noDr }
noncomputable def s_clGood (s0_Steps : Int) (s0_Strides : List Int) (s0_Broken : List Int) : Bool :=
  bif s_l1In s0_Steps 1 60 then
    bif s_l1In (↑(List.length s0_Strides) : Int) 1 5 then
      bif s_l1Rising_n s0_Strides 1 9 then s_l1Rising_n s0_Broken 1 (IntKind.wrap IntKind.i64 (s0_Steps - 1)) else false
    else false
  else false
theorem s_clGood_e (s0_Steps : Int) (s0_Strides : List Int) (s0_Broken : List Int) : c_s_clGood.start c_s_clGood.L ((s0_Steps, s0_Strides, s0_Broken), ()) = some (s_clGood s0_Steps s0_Strides s0_Broken) := by
  refine Eq.trans (b := (bif s_l1In s0_Steps 1 60 then bif s_l1In (↑(List.length s0_Strides) : Int) 1 5 then bif s_l1Rising_n s0_Strides 1 9 then some (s_l1Rising_n s0_Broken 1 (IntKind.wrap IntKind.i64 (s0_Steps - 1))) else some false else some false else some false : Option Bool)) (by kernel_rfl) ?_
  unfold s_clGood
  repeat (first | rfl | apply condS)
theorem s_clGood_iff {a : Int} {b c : List Int} : s_clGood a b c = true ↔ (1 ≤ a ∧ a ≤ 60) ∧ (1 ≤ b.length ∧ b.length ≤ 5) ∧ rising 1 9 b = true ∧ rising 1 (a - 1) c = true := by
  unfold s_clGood
  simp only [s_l1In_inB, s_l1Rising_n]
  by_cases h : inB 1 60 a = true
  · have h2 := h
    simp only [inB, Bool.and_eq_true, decide_eq_true_eq] at h2
    rw [wrapI (by omega) (by omega), h]
    by_cases h3 : inB 1 5 (b.length : Int) = true
    · have h4 := h3
      simp only [inB, Bool.and_eq_true, decide_eq_true_eq] at h4
      rw [h3]
      have h5 : 1 ≤ b.length ∧ b.length ≤ 5 := by omega
      cases rising 1 9 b <;> simp [h2, h5]
    · have h4 : ¬ (1 ≤ b.length ∧ b.length ≤ 5) := fun h5 => h3 (by simp only [inB, Bool.and_eq_true, decide_eq_true_eq]; omega)
      simp only [Bool.not_eq_true] at h3
      rw [h3]
      simp [h4]
  · have h4 : ¬ (1 ≤ a ∧ a ≤ 60) := fun h5 => h (by simp only [inB, Bool.and_eq_true, decide_eq_true_eq]; omega)
    simp only [Bool.not_eq_true] at h
    rw [h]
    simp [h4]
theorem s_clGood_len {a : Int} {b c : List Int} (h : s_clGood a b c = true) : b.length ≤ 5 ∧ c.length ≤ 60 := by
  obtain ⟨h1, h2, h3, h4⟩ := s_clGood_iff.1 h
  have := rising_len h4
  omega
noncomputable def F_s_clGood : Ins c_s_clGood.ins → Bool := fun x => s_clGood x.1.1 x.1.2.1 x.1.2.2
noncomputable def S_s_clGood : FSpec := mkT c_s_clGood.env.pre c_s_clGood.ins c_s_clGood.out c_s_clGood.inj F_s_clGood
theorem h_s_clGood : Cert Try.prog 247 S_s_clGood := FnCx.certT (c := c_s_clGood) F_s_clGood (tyOk _ _ _) (spOk ⟨h_s_l1In, fun _ _ _ => trivial, ⟨h_s_l1Rising, fun _ _ _ => trivial, trivial⟩⟩) (fun _ _ _ _ _ hs => noDr_ok) Try.func247 rfl rfl Try.ntmps247 (by kernel_rfl) rfl rfl (fun _ => rfl) trivial (fun x => .inl ⟨c_s_clGood.start () x, fun _ => rfl⟩) (fun x hb => by
  obtain ⟨⟨s0_Steps, s0_Strides, s0_Broken⟩, _⟩ := x
  exact s_clGood_e s0_Steps s0_Strides s0_Broken)
/-! spec.l1Has -/
noncomputable def c_s_l1Has : FnCx := { env := env 17 [] [], body := bodyOf Try.f217, res := [.tmp 4], ins := [.ro kSint, .ro kint], out := [(kbool, true)], T := Bool, fin := fun r => r.1.1, inj := fun t => ((t, ()), ((), (), ())), pts := [([.inLoop [1, 0, 1, 0, 0], .inBlock 0, .code [1, 1]], Shape.mk [Bs.row kint 3 false] [(1, Ss.one (Cs.sc kint)), (7, Ss.one (Cs.sl 0)), (8, Ss.one (Cs.sc kint)), (9, Ss.one (Cs.sc kint))] [Ss.one (Cs.any), Ss.one (Cs.any)])], fuel := 400, dr := noDr }
noncomputable def s_l1Has_t1 (g1 : List (Int) → Int → Int → Int → Option (Bool)) (r0 : List (Int)) (n1 : Int) (s8 : Int) (s9 : Int) : Option Bool :=
  bif decide (s9 < s8) then
    bif decide (0 ≤ s9) then
      bif decide (s9 < (↑(List.length r0) : Int)) then
        bif rdk kint r0 s9 == n1 then some true else g1 r0 n1 s8 (IntKind.wrap IntKind.i64 (s9 + 1))
      else none
    else none
  else some false
noncomputable def s_l1Has_t0 (g1 : List (Int) → Int → Int → Int → Option (Bool)) (l0 : List Int) (n1 : Int) : Option Bool :=
  g1 l0 n1 (↑(List.length l0) : Int) 0
theorem s_l1Has_ts : Tails c_s_l1Has.pts c_s_l1Has.round :=
  ⟨fun s => by
    obtain ⟨⟨r0, _⟩, ⟨n1, _, s8, s9, _⟩, ⟨_, _, _⟩⟩ := s
    refine Tail.eq (Y := fun g => s_l1Has_t1 (fun r0 n1 s8 s9 => g.1 ((r0, ()), (n1, (), s8, s9, ()), ((), (), ()))) r0 n1 s8 s9) ?_ (fun g => by kernel_rfl)
    simp only [s_l1Has_t1]; repeat (first | exact Tail.const _ | exact Tail.here _ | exact Tail.there (Tail.here _) | exact Tail.there (Tail.there (Tail.here _)) | exact Tail.there (Tail.there (Tail.there (Tail.here _))) | exact Tail.there (Tail.there (Tail.there (Tail.there (Tail.here _)))) | exact Tail.there (Tail.there (Tail.there (Tail.there (Tail.there (Tail.here _))))) | apply Tail.cond | (apply Tail.bind; intro _)), trivial⟩
theorem s_l1Has_hs : ∀ x, Tail c_s_l1Has.pts (fun g => c_s_l1Has.start g x) := fun x => by
    obtain ⟨l0, n1, _⟩ := x
    refine Tail.eq (Y := fun g => s_l1Has_t0 (fun r0 n1 s8 s9 => g.1 ((r0, ()), (n1, (), s8, s9, ()), ((), (), ()))) l0 n1) ?_ (fun g => by kernel_rfl)
    simp only [s_l1Has_t0]; repeat (first | exact Tail.const _ | exact Tail.here _ | exact Tail.there (Tail.here _) | exact Tail.there (Tail.there (Tail.here _)) | exact Tail.there (Tail.there (Tail.there (Tail.here _))) | exact Tail.there (Tail.there (Tail.there (Tail.there (Tail.here _)))) | exact Tail.there (Tail.there (Tail.there (Tail.there (Tail.there (Tail.here _))))) | apply Tail.cond | (apply Tail.bind; intro _))
noncomputable def s_l1Has_L1 (r0 : List (Int)) (n1 : Int) (s8 : Int) (s9 : Int) : Option Bool := c_s_l1Has.L.1 ((r0, ()), (n1, (), s8, s9, ()), ((), (), ()))
theorem s_l1Has_u1 (r0 : List (Int)) (n1 : Int) (s8 : Int) (s9 : Int) : s_l1Has_L1 r0 n1 s8 s9 = s_l1Has_t1 s_l1Has_L1 r0 n1 s8 s9 :=
  (congrArg (fun g => g.1 ((r0, ()), (n1, (), s8, s9, ()), ((), (), ()))) (FnCx.L_eq s_l1Has_ts)).trans (by kernel_rfl)
noncomputable def s_l1Has (l0 : List Int) (n1 : Int) : Option Bool := s_l1Has_t0 s_l1Has_L1 l0 n1
theorem s_l1Has_e (l0 : List Int) (n1 : Int) : c_s_l1Has.start c_s_l1Has.L (l0, n1, ()) = s_l1Has l0 n1 := by kernel_rfl
-- NICE tot
noncomputable def s_l1Has_n (l : List Int) (v : Int) : Bool := decide (v ∈ l)
theorem s_l1Has_ok (l : List Int) (v : Int) (hb : BdI c_s_l1Has.ins (l, v, ())) : s_l1Has l v = some (s_l1Has_n l v) := by
  have hm : l.length ≤ maxLen := hb.1.1
  have e := loop_any (L := fun i => s_l1Has_L1 l v l.length (i : Int)) (l := l) (p := fun x => x == v) (a := true) (b := false)
    (fun i h => by simp only [s_l1Has_u1 l v l.length i, s_l1Has_t1, rdk_get (k := kint) h, wrapS h hm]; simp [h]) (by simp [s_l1Has_u1 l v l.length l.length, s_l1Has_t1])
  refine Eq.trans e (congrArg some ?_)
  unfold s_l1Has_n
  clear e hb hm
  induction l with
  | nil => rfl
  | cons x l ih =>
    rw [List.any_cons]
    by_cases h : x = v
    · simp [h]
    · have h' : ¬ v = x := fun e => h e.symm
      simp only [List.mem_cons, h', false_or] at ih ⊢
      rw [← ih]
      simp [h]
noncomputable def F_s_l1Has : Ins c_s_l1Has.ins → Bool := fun x => s_l1Has_n x.1 x.2.1
noncomputable def S_s_l1Has : FSpec := mkT c_s_l1Has.env.pre c_s_l1Has.ins c_s_l1Has.out c_s_l1Has.inj F_s_l1Has
theorem h_s_l1Has : Cert Try.prog 217 S_s_l1Has := FnCx.certT (c := c_s_l1Has) F_s_l1Has (tyOk _ _ _) (spOk trivial) (fun _ _ _ _ _ hs => noDr_ok) Try.func217 rfl rfl Try.ntmps217 (by kernel_rfl) rfl rfl (fun _ => rfl) s_l1Has_ts s_l1Has_hs (fun x hb => by
  obtain ⟨l0, n1, _⟩ := x
  exact (s_l1Has_e l0 n1).trans (s_l1Has_ok l0 n1 hb))
/-! spec.l1Own -/
noncomputable def c_s_l1Own : FnCx := { env := env 6 [] [], body := bodyOf Try.f273, res := [.tmp 2], ins := [.ro kSint], out := [(kSint, true)], T := List Int, fin := fun r => r.1.1, inj := fun t => ((t, ()), ((), ())), pts := [], fuel := 400, dr := noDr }
noncomputable def s_l1Own (l0 : List Int) : Option (List Int) :=
  bif Nat.ble (0 + List.length l0) 4294967296 then some ([] ++ l0) else none
theorem s_l1Own_e (l0 : List Int) : c_s_l1Own.start c_s_l1Own.L (l0, ()) = s_l1Own l0 := by kernel_rfl
-- NICE opt
noncomputable def s_l1Own_n (s : List Int) : Option (List Int) := bif decide (s.length ≤ 4294967296) then some s else none
theorem s_l1Own_ok (s : List Int) (hb : BdI c_s_l1Own.ins (s, ())) (t : List Int) (ht : s_l1Own_n s = some t) : s_l1Own s = some t := by
  unfold s_l1Own_n at ht
  cases h : decide (s.length ≤ 4294967296)
  · rw [h] at ht; cases ht
  · rw [h] at ht; cases ht
    have h := of_decide_eq_true h
    unfold s_l1Own
    simp [ble_dec, h]
noncomputable def F_s_l1Own : Ins c_s_l1Own.ins → Option (List Int) := fun x => s_l1Own_n x.1
noncomputable def S_s_l1Own : FSpec := mkF c_s_l1Own.env.pre c_s_l1Own.ins c_s_l1Own.out c_s_l1Own.inj F_s_l1Own
theorem h_s_l1Own : Cert Try.prog 273 S_s_l1Own := FnCx.certF (c := c_s_l1Own) F_s_l1Own (tyOk _ _ _) (spOk trivial) (fun _ _ _ _ _ hs => noDr_ok) Try.func273 rfl rfl Try.ntmps273 (by kernel_rfl) rfl rfl (fun _ => rfl) trivial (fun x => .inl ⟨c_s_l1Own.start () x, fun _ => rfl⟩) (fun x t hb ht => by
  obtain ⟨l0, _⟩ := x
  exact (s_l1Own_e l0).trans (s_l1Own_ok l0 hb t ht))
/-! spec.l1Put -/
noncomputable def c_s_l1Put : FnCx := { env := env 48 [] [], body := bodyOf Try.f288, res := [.tmp 4], ins := [.ro kSint, .ro kint], out := [(kSint, true)], T := List Int, fin := fun r => r.1.1, inj := fun t => ((t, ()), ((), (), ())), pts := [([.inLoop [1, 1, 0, 0, 0], .inBlock 0, .code [1, 1, 1]], Shape.mk [Bs.row kint 3 false] [(0, Ss.one (Cs.sl 0)), (1, Ss.one (Cs.sc kint)), (5, Ss.one (Cs.sc kint))] [Ss.one (Cs.any), Ss.one (Cs.any)])], fuel := 400, dr := noDr }
noncomputable def s_l1Put_t1 (g1 : List (Int) → Int → Int → Option (List Int)) (r0 : List (Int)) (n1 : Int) (k5 : Int) : Option (List Int) :=
  bif decide (k5 < (↑(List.length r0) : Int)) then
    bif decide (0 ≤ k5) then
      bif decide (k5 < (↑(List.length r0) : Int)) then
        bif decide (rdk kint r0 k5 < n1) then g1 r0 n1 (IntKind.wrap IntKind.i64 (k5 + 1))
        else
          bif decide (k5 < (↑(List.length r0) : Int)) then
            bif decide (0 ≤ k5) then
              bif decide (k5 < (↑(List.length r0) : Int)) then
                bif rdk kint r0 k5 == n1 then none
                else
                  bif decide (0 ≤ k5) then
                    bif decide (k5 ≤ (↑(List.length r0) : Int)) then
                      bif Nat.ble (0 + List.length (List.take (Int.toNat k5 - Int.toNat 0) (List.drop (Int.toNat 0) r0))) 4294967296 then
                        bif Nat.ble (List.length ([] ++ List.take (Int.toNat k5 - Int.toNat 0) (List.drop (Int.toNat 0) r0)) + 1) 4294967296 then
                          bif decide (0 ≤ k5) then
                            bif decide (k5 ≤ (↑(List.length r0) : Int)) then
                              bif
                                  Nat.ble
                                    (List.length ([] ++ List.take (Int.toNat k5 - Int.toNat 0) (List.drop (Int.toNat 0) r0) ++ [n1]) +
                                      List.length (List.take (Int.toNat (↑(List.length r0) : Int) - Int.toNat k5) (List.drop (Int.toNat k5) r0)))
                                    4294967296 then
                                some
                                  ([] ++ List.take (Int.toNat k5 - Int.toNat 0) (List.drop (Int.toNat 0) r0) ++ [n1] ++
                                    List.take (Int.toNat (↑(List.length r0) : Int) - Int.toNat k5) (List.drop (Int.toNat k5) r0))
                              else none
                            else none
                          else none
                        else none
                      else none
                    else none
                  else none
              else none
            else none
          else
            bif decide (0 ≤ k5) then
              bif decide (k5 ≤ (↑(List.length r0) : Int)) then
                bif Nat.ble (0 + List.length (List.take (Int.toNat k5 - Int.toNat 0) (List.drop (Int.toNat 0) r0))) 4294967296 then
                  bif Nat.ble (List.length ([] ++ List.take (Int.toNat k5 - Int.toNat 0) (List.drop (Int.toNat 0) r0)) + 1) 4294967296 then
                    bif decide (0 ≤ k5) then
                      bif decide (k5 ≤ (↑(List.length r0) : Int)) then
                        bif
                            Nat.ble
                              (List.length ([] ++ List.take (Int.toNat k5 - Int.toNat 0) (List.drop (Int.toNat 0) r0) ++ [n1]) +
                                List.length (List.take (Int.toNat (↑(List.length r0) : Int) - Int.toNat k5) (List.drop (Int.toNat k5) r0)))
                              4294967296 then
                          some
                            ([] ++ List.take (Int.toNat k5 - Int.toNat 0) (List.drop (Int.toNat 0) r0) ++ [n1] ++
                              List.take (Int.toNat (↑(List.length r0) : Int) - Int.toNat k5) (List.drop (Int.toNat k5) r0))
                        else none
                      else none
                    else none
                  else none
                else none
              else none
            else none
      else none
    else none
  else
    bif decide (k5 < (↑(List.length r0) : Int)) then
      bif decide (0 ≤ k5) then
        bif decide (k5 < (↑(List.length r0) : Int)) then
          bif rdk kint r0 k5 == n1 then none
          else
            bif decide (0 ≤ k5) then
              bif decide (k5 ≤ (↑(List.length r0) : Int)) then
                bif Nat.ble (0 + List.length (List.take (Int.toNat k5 - Int.toNat 0) (List.drop (Int.toNat 0) r0))) 4294967296 then
                  bif Nat.ble (List.length ([] ++ List.take (Int.toNat k5 - Int.toNat 0) (List.drop (Int.toNat 0) r0)) + 1) 4294967296 then
                    bif decide (0 ≤ k5) then
                      bif decide (k5 ≤ (↑(List.length r0) : Int)) then
                        bif
                            Nat.ble
                              (List.length ([] ++ List.take (Int.toNat k5 - Int.toNat 0) (List.drop (Int.toNat 0) r0) ++ [n1]) +
                                List.length (List.take (Int.toNat (↑(List.length r0) : Int) - Int.toNat k5) (List.drop (Int.toNat k5) r0)))
                              4294967296 then
                          some
                            ([] ++ List.take (Int.toNat k5 - Int.toNat 0) (List.drop (Int.toNat 0) r0) ++ [n1] ++
                              List.take (Int.toNat (↑(List.length r0) : Int) - Int.toNat k5) (List.drop (Int.toNat k5) r0))
                        else none
                      else none
                    else none
                  else none
                else none
              else none
            else none
        else none
      else none
    else
      bif decide (0 ≤ k5) then
        bif decide (k5 ≤ (↑(List.length r0) : Int)) then
          bif Nat.ble (0 + List.length (List.take (Int.toNat k5 - Int.toNat 0) (List.drop (Int.toNat 0) r0))) 4294967296 then
            bif Nat.ble (List.length ([] ++ List.take (Int.toNat k5 - Int.toNat 0) (List.drop (Int.toNat 0) r0)) + 1) 4294967296 then
              bif decide (0 ≤ k5) then
                bif decide (k5 ≤ (↑(List.length r0) : Int)) then
                  bif
                      Nat.ble
                        (List.length ([] ++ List.take (Int.toNat k5 - Int.toNat 0) (List.drop (Int.toNat 0) r0) ++ [n1]) +
                          List.length (List.take (Int.toNat (↑(List.length r0) : Int) - Int.toNat k5) (List.drop (Int.toNat k5) r0)))
                        4294967296 then
                    some
                      ([] ++ List.take (Int.toNat k5 - Int.toNat 0) (List.drop (Int.toNat 0) r0) ++ [n1] ++
                        List.take (Int.toNat (↑(List.length r0) : Int) - Int.toNat k5) (List.drop (Int.toNat k5) r0))
                  else none
                else none
              else none
            else none
          else none
        else none
      else none
noncomputable def s_l1Put_t0 (g1 : List (Int) → Int → Int → Option (List Int)) (l0 : List Int) (n1 : Int) : Option (List Int) :=
  g1 l0 n1 0
theorem s_l1Put_ts : Tails c_s_l1Put.pts c_s_l1Put.round :=
  ⟨fun s => by
    obtain ⟨⟨r0, _⟩, ⟨_, n1, k5, _⟩, ⟨_, _, _⟩⟩ := s
    refine Tail.eq (Y := fun g => s_l1Put_t1 (fun r0 n1 k5 => g.1 ((r0, ()), ((), n1, k5, ()), ((), (), ()))) r0 n1 k5) ?_ (fun g => by kernel_rfl)
    simp only [s_l1Put_t1]; repeat (first | exact Tail.const _ | exact Tail.here _ | exact Tail.there (Tail.here _) | exact Tail.there (Tail.there (Tail.here _)) | exact Tail.there (Tail.there (Tail.there (Tail.here _))) | exact Tail.there (Tail.there (Tail.there (Tail.there (Tail.here _)))) | exact Tail.there (Tail.there (Tail.there (Tail.there (Tail.there (Tail.here _))))) | apply Tail.cond | (apply Tail.bind; intro _)), trivial⟩
theorem s_l1Put_hs : ∀ x, Tail c_s_l1Put.pts (fun g => c_s_l1Put.start g x) := fun x => by
    obtain ⟨l0, n1, _⟩ := x
    refine Tail.eq (Y := fun g => s_l1Put_t0 (fun r0 n1 k5 => g.1 ((r0, ()), ((), n1, k5, ()), ((), (), ()))) l0 n1) ?_ (fun g => by kernel_rfl)
    simp only [s_l1Put_t0]; repeat (first | exact Tail.const _ | exact Tail.here _ | exact Tail.there (Tail.here _) | exact Tail.there (Tail.there (Tail.here _)) | exact Tail.there (Tail.there (Tail.there (Tail.here _))) | exact Tail.there (Tail.there (Tail.there (Tail.there (Tail.here _)))) | exact Tail.there (Tail.there (Tail.there (Tail.there (Tail.there (Tail.here _))))) | apply Tail.cond | (apply Tail.bind; intro _))
noncomputable def s_l1Put_L1 (r0 : List (Int)) (n1 : Int) (k5 : Int) : Option (List Int) := c_s_l1Put.L.1 ((r0, ()), ((), n1, k5, ()), ((), (), ()))
theorem s_l1Put_u1 (r0 : List (Int)) (n1 : Int) (k5 : Int) : s_l1Put_L1 r0 n1 k5 = s_l1Put_t1 s_l1Put_L1 r0 n1 k5 :=
  (congrArg (fun g => g.1 ((r0, ()), ((), n1, k5, ()), ((), (), ()))) (FnCx.L_eq s_l1Put_ts)).trans (by kernel_rfl)
noncomputable def s_l1Put (l0 : List Int) (n1 : Int) : Option (List Int) := s_l1Put_t0 s_l1Put_L1 l0 n1
theorem s_l1Put_e (l0 : List Int) (n1 : Int) : c_s_l1Put.start c_s_l1Put.L (l0, n1, ()) = s_l1Put l0 n1 := by kernel_rfl
noncomputable def F_s_l1Put : Ins c_s_l1Put.ins → Option (List Int) := fun x => s_l1Put x.1 x.2.1
noncomputable def S_s_l1Put : FSpec := mkF c_s_l1Put.env.pre c_s_l1Put.ins c_s_l1Put.out c_s_l1Put.inj F_s_l1Put
theorem h_s_l1Put : Cert Try.prog 288 S_s_l1Put := FnCx.certF (c := c_s_l1Put) F_s_l1Put (tyOk _ _ _) (spOk trivial) (fun _ _ _ _ _ hs => noDr_ok) Try.func288 rfl rfl Try.ntmps288 (by kernel_rfl) rfl rfl (fun _ => rfl) s_l1Put_ts s_l1Put_hs (fun x t hb ht => by
  obtain ⟨l0, n1, _⟩ := x
  exact (s_l1Put_e l0 n1).trans ht)
/-! spec.clBreak -/
noncomputable def c_s_clBreak : FnCx := { env := env 15 [(273, S_s_l1Own), (288, S_s_l1Put)] [], body := bodyOf Try.f263, res := [.cell 4 96], ins := [.ro kStairs, .ro kint], out := [(kStairs, true)], T := (Int × List Int × List Int), fin := fun r => r.1.1, inj := fun t => ((t, ()), ((), (), ())), pts := [], fuel := 400, dr := evDr (env 15 [(273, S_s_l1Own), (288, S_s_l1Put)] []) }
noncomputable def s_clBreak (s0_Steps : Int) (s0_Strides : List Int) (s0_Broken : List Int) (step1 : Int) : Option ((Int × List Int × List Int)) :=
  Option.bind (s_l1Own_n s0_Strides) fun r => Option.bind (s_l1Put s0_Broken step1) fun r_1 => some (s0_Steps, r, r_1)
theorem s_clBreak_e (s0_Steps : Int) (s0_Strides : List Int) (s0_Broken : List Int) (step1 : Int) : c_s_clBreak.start c_s_clBreak.L ((s0_Steps, s0_Strides, s0_Broken), step1, ()) = s_clBreak s0_Steps s0_Strides s0_Broken step1 := by kernel_rfl
noncomputable def F_s_clBreak : Ins c_s_clBreak.ins → Option ((Int × List Int × List Int)) := fun x => s_clBreak x.1.1 x.1.2.1 x.1.2.2 x.2.1
noncomputable def S_s_clBreak : FSpec := mkF c_s_clBreak.env.pre c_s_clBreak.ins c_s_clBreak.out c_s_clBreak.inj F_s_clBreak
theorem h_s_clBreak : Cert Try.prog 263 S_s_clBreak := FnCx.certF (c := c_s_clBreak) F_s_clBreak (tyOk _ _ _) (spOk ⟨h_s_l1Own, fun _ _ _ => trivial, ⟨h_s_l1Put, fun _ _ _ => trivial, trivial⟩⟩) (fun _ _ _ _ _ hs => evDr_ok (tyOk _ _ _) hs follows) Try.func263 rfl rfl Try.ntmps263 (by kernel_rfl) rfl rfl (fun _ => rfl) trivial (fun x => .inl ⟨c_s_clBreak.start () x, fun _ => rfl⟩) (fun x t hb ht => by
  obtain ⟨⟨s0_Steps, s0_Strides, s0_Broken⟩, step1, _⟩ := x
  exact (s_clBreak_e s0_Steps s0_Strides s0_Broken step1).trans ht)
/-! spec.BreakStep -/
noncomputable def c_s_BreakStep : FnCx := { env := env 27 [(247, S_s_clGood), (176, S_s_l1In), (217, S_s_l1Has), (263, S_s_clBreak)] [], body := bodyOf Try.f159, res := [.cell 4 96, .tmp 5], ins := [.ro kStairs, .ro kint], out := [(kStairs, true), (kbool, true)], T := (Int × List Int × List Int) × Bool, fin := fun r => (r.1.1, r.1.2.1), inj := fun t => ((t.1, t.2, ()), ((), (), ())), pts := [], fuel := 400, dr := noDr }
noncomputable def s_BreakStep (s0_Steps : Int) (s0_Strides : List Int) (s0_Broken : List Int) (step1 : Int) : Option ((Int × List Int × List Int) × Bool) :=
  bif !s_clGood s0_Steps s0_Strides s0_Broken then some ((0, [], []), false)
  else
    bif !s_l1In step1 1 (IntKind.wrap IntKind.i64 (s0_Steps - 1)) then some ((0, [], []), false)
    else
      bif s_l1Has_n s0_Broken step1 then some ((0, [], []), false)
      else Option.bind (s_clBreak s0_Steps s0_Strides s0_Broken step1) fun r => some ((Prod.fst r, Prod.fst (Prod.snd r), Prod.snd (Prod.snd r)), true)
theorem s_BreakStep_e (s0_Steps : Int) (s0_Strides : List Int) (s0_Broken : List Int) (step1 : Int) : c_s_BreakStep.start c_s_BreakStep.L ((s0_Steps, s0_Strides, s0_Broken), step1, ()) = s_BreakStep s0_Steps s0_Strides s0_Broken step1 := by kernel_rfl
noncomputable def F_s_BreakStep : Ins c_s_BreakStep.ins → Option ((Int × List Int × List Int) × Bool) := fun x => s_BreakStep x.1.1 x.1.2.1 x.1.2.2 x.2.1
noncomputable def S_s_BreakStep : FSpec := mkF c_s_BreakStep.env.pre c_s_BreakStep.ins c_s_BreakStep.out c_s_BreakStep.inj F_s_BreakStep
theorem h_s_BreakStep : Cert Try.prog 159 S_s_BreakStep := FnCx.certF (c := c_s_BreakStep) F_s_BreakStep (tyOk _ _ _) (spOk ⟨h_s_clGood, fun _ _ _ => trivial, ⟨h_s_l1In, fun _ _ _ => trivial, ⟨h_s_l1Has, fun _ _ _ => trivial, ⟨h_s_clBreak, fun _ _ _ => trivial, trivial⟩⟩⟩⟩) (fun _ _ _ _ _ hs => noDr_ok) Try.func159 rfl rfl Try.ntmps159 (by kernel_rfl) rfl rfl (fun _ => rfl) trivial (fun x => .inl ⟨c_s_BreakStep.start () x, fun _ => rfl⟩) (fun x t hb ht => by
  obtain ⟨⟨s0_Steps, s0_Strides, s0_Broken⟩, step1, _⟩ := x
  exact (s_BreakStep_e s0_Steps s0_Strides s0_Broken step1).trans ht)
/-! impl.within -/
noncomputable def c_i_within : FnCx := { env := env 15 [] [], body := bodyOf Try.f175, res := [.tmp 6], ins := [.ro kint, .ro kint, .ro kint], out := [(kbool, true)], T := Bool, fin := fun r => r.1.1, inj := fun t => ((t, ()), ((), (), (), ())), pts := [], fuel := 400, dr := noDr }
noncomputable def i_within (n0 : Int) (low1 : Int) (high2 : Int) : Bool :=
  bif decide (low1 ≤ n0) then decide (n0 ≤ high2) else false
theorem i_within_e (n0 : Int) (low1 : Int) (high2 : Int) : c_i_within.start c_i_within.L (n0, low1, high2, ()) = some (i_within n0 low1 high2) := by
  refine Eq.trans (b := (bif decide (low1 ≤ n0) then some (decide (n0 ≤ high2)) else some false : Option Bool)) (by kernel_rfl) ?_
  unfold i_within
  repeat (first | rfl | apply condS)
noncomputable def F_i_within : Ins c_i_within.ins → Bool := fun x => i_within x.1 x.2.1 x.2.2.1
noncomputable def S_i_within : FSpec := mkT c_i_within.env.pre c_i_within.ins c_i_within.out c_i_within.inj F_i_within
theorem h_i_within : Cert Try.prog 175 S_i_within := FnCx.certT (c := c_i_within) F_i_within (tyOk _ _ _) (spOk trivial) (fun _ _ _ _ _ hs => noDr_ok) Try.func175 rfl rfl Try.ntmps175 (by kernel_rfl) rfl rfl (fun _ => rfl) trivial (fun x => .inl ⟨c_i_within.start () x, fun _ => rfl⟩) (fun x hb => by
  obtain ⟨n0, low1, high2, _⟩ := x
  exact i_within_e n0 low1 high2)
/-! impl.rise -/
noncomputable def c_i_rise : FnCx := { env := env 35 [(175, S_i_within)] [], body := bodyOf Try.f283, res := [.tmp 6], ins := [.ro kSint, .ro kint, .ro kint], out := [(kbool, true)], T := Bool, fin := fun r => r.1.1, inj := fun t => ((t, ()), ((), (), (), ())), pts := [([.inLoop [1, 0, 1, 0, 0], .inBlock 0, .code [1, 1]], Shape.mk [Bs.row kint 3 false] [(0, Ss.one (Cs.sl 0)), (1, Ss.one (Cs.sc kint)), (2, Ss.one (Cs.sc kint)), (9, Ss.one (Cs.sl 0)), (10, Ss.one (Cs.sc kint)), (11, Ss.one (Cs.sc kint))] [Ss.one (Cs.any), Ss.one (Cs.any), Ss.one (Cs.any)])], fuel := 400, dr := noDr }
noncomputable def i_rise_t1 (g1 : List (Int) → Int → Int → Int → Int → Option (Bool)) (r0 : List (Int)) (low1 : Int) (high2 : Int) (s10 : Int) (s11 : Int) : Option Bool :=
  bif decide (s11 < s10) then
    bif decide (0 ≤ s11) then
      bif decide (s11 < (↑(List.length r0) : Int)) then
        bif !i_within (rdk kint r0 s11) low1 high2 then some false
        else
          bif decide (s11 > 0) then
            bif decide (0 ≤ IntKind.wrap IntKind.i64 (s11 - 1)) then
              bif decide (IntKind.wrap IntKind.i64 (s11 - 1) < (↑(List.length r0) : Int)) then
                bif decide (rdk kint r0 s11 ≤ rdk kint r0 (IntKind.wrap IntKind.i64 (s11 - 1))) then some false
                else g1 r0 low1 high2 s10 (IntKind.wrap IntKind.i64 (s11 + 1))
              else none
            else none
          else g1 r0 low1 high2 s10 (IntKind.wrap IntKind.i64 (s11 + 1))
      else none
    else none
  else some true
noncomputable def i_rise_t0 (g1 : List (Int) → Int → Int → Int → Int → Option (Bool)) (l0 : List Int) (low1 : Int) (high2 : Int) : Option Bool :=
  g1 l0 low1 high2 (↑(List.length l0) : Int) 0
theorem i_rise_ts : Tails c_i_rise.pts c_i_rise.round :=
  ⟨fun s => by
    obtain ⟨⟨r0, _⟩, ⟨_, low1, high2, _, s10, s11, _⟩, ⟨_, _, _, _⟩⟩ := s
    refine Tail.eq (Y := fun g => i_rise_t1 (fun r0 low1 high2 s10 s11 => g.1 ((r0, ()), ((), low1, high2, (), s10, s11, ()), ((), (), (), ()))) r0 low1 high2 s10 s11) ?_ (fun g => by kernel_rfl)
    simp only [i_rise_t1]; repeat (first | exact Tail.const _ | exact Tail.here _ | exact Tail.there (Tail.here _) | exact Tail.there (Tail.there (Tail.here _)) | exact Tail.there (Tail.there (Tail.there (Tail.here _))) | exact Tail.there (Tail.there (Tail.there (Tail.there (Tail.here _)))) | exact Tail.there (Tail.there (Tail.there (Tail.there (Tail.there (Tail.here _))))) | apply Tail.cond | (apply Tail.bind; intro _)), trivial⟩
theorem i_rise_hs : ∀ x, Tail c_i_rise.pts (fun g => c_i_rise.start g x) := fun x => by
    obtain ⟨l0, low1, high2, _⟩ := x
    refine Tail.eq (Y := fun g => i_rise_t0 (fun r0 low1 high2 s10 s11 => g.1 ((r0, ()), ((), low1, high2, (), s10, s11, ()), ((), (), (), ()))) l0 low1 high2) ?_ (fun g => by kernel_rfl)
    simp only [i_rise_t0]; repeat (first | exact Tail.const _ | exact Tail.here _ | exact Tail.there (Tail.here _) | exact Tail.there (Tail.there (Tail.here _)) | exact Tail.there (Tail.there (Tail.there (Tail.here _))) | exact Tail.there (Tail.there (Tail.there (Tail.there (Tail.here _)))) | exact Tail.there (Tail.there (Tail.there (Tail.there (Tail.there (Tail.here _))))) | apply Tail.cond | (apply Tail.bind; intro _))
noncomputable def i_rise_L1 (r0 : List (Int)) (low1 : Int) (high2 : Int) (s10 : Int) (s11 : Int) : Option Bool := c_i_rise.L.1 ((r0, ()), ((), low1, high2, (), s10, s11, ()), ((), (), (), ()))
theorem i_rise_u1 (r0 : List (Int)) (low1 : Int) (high2 : Int) (s10 : Int) (s11 : Int) : i_rise_L1 r0 low1 high2 s10 s11 = i_rise_t1 i_rise_L1 r0 low1 high2 s10 s11 :=
  (congrArg (fun g => g.1 ((r0, ()), ((), low1, high2, (), s10, s11, ()), ((), (), (), ()))) (FnCx.L_eq i_rise_ts)).trans (by kernel_rfl)
noncomputable def i_rise (l0 : List Int) (low1 : Int) (high2 : Int) : Option Bool := i_rise_t0 i_rise_L1 l0 low1 high2
theorem i_rise_e (l0 : List Int) (low1 : Int) (high2 : Int) : c_i_rise.start c_i_rise.L (l0, low1, high2, ()) = i_rise l0 low1 high2 := by kernel_rfl
-- NICE tot
noncomputable def i_rise_n (l : List Int) (lo hi : Int) : Bool := rising lo hi l
theorem i_within_inB (x lo hi : Int) : i_within x lo hi = inB lo hi x := by
  unfold i_within inB
  cases h1 : decide (lo ≤ x) <;> simp_all
theorem i_rise_ok (l : List Int) (lo hi : Int) (hb : BdI c_i_rise.ins (l, lo, hi, ())) : i_rise l lo hi = some (i_rise_n l lo hi) :=
  have hm : l.length ≤ maxLen := hb.1.1
  loop_prev (L := fun i => i_rise_L1 l lo hi l.length (i : Int)) (l := l) (p := riseP lo hi)
    (fun i h => by
      simp only [i_rise_u1 l lo hi l.length i, i_rise_t1, rdk_get (k := kint) h, wrapS h hm, i_within_inB]
      by_cases hi0 : i = 0
      · subst hi0
        simp only [if_true, riseP, ltO, Bool.and_true]
        cases inB lo hi l[0] <;> simp [h]
      · have hl : i - 1 < l.length := by omega
        have hg : 0 < i := by omega
        simp only [wrapP h hm hi0, rdk_get (k := kint) hl, if_neg hi0, riseP, List.getElem?_eq_getElem hl, ltO]
        have e1 : ((l[i - 1] : Int) < l[i]) = ¬ (l[i] ≤ l[i - 1]) := by simp
        cases inB lo hi l[i] <;> by_cases hc : l[i] ≤ l[i - 1] <;> simp [h, hl, hg, hc, e1]) (by simp [i_rise_u1 l lo hi l.length l.length, i_rise_t1])
noncomputable def F_i_rise : Ins c_i_rise.ins → Bool := fun x => i_rise_n x.1 x.2.1 x.2.2.1
noncomputable def S_i_rise : FSpec := mkT c_i_rise.env.pre c_i_rise.ins c_i_rise.out c_i_rise.inj F_i_rise
theorem h_i_rise : Cert Try.prog 283 S_i_rise := FnCx.certT (c := c_i_rise) F_i_rise (tyOk _ _ _) (spOk ⟨h_i_within, fun _ _ _ => trivial, trivial⟩) (fun _ _ _ _ _ hs => noDr_ok) Try.func283 rfl rfl Try.ntmps283 (by kernel_rfl) rfl rfl (fun _ => rfl) i_rise_ts i_rise_hs (fun x hb => by
  obtain ⟨l0, low1, high2, _⟩ := x
  exact (i_rise_e l0 low1 high2).trans (i_rise_ok l0 low1 high2 hb))
/-! impl.AreStairs -/
noncomputable def c_i_AreStairs : FnCx := { env := env 25 [(175, S_i_within), (283, S_i_rise)] [], body := bodyOf Try.f245, res := [.tmp 2], ins := [.ro kStairs], out := [(kbool, true)], T := Bool, fin := fun r => r.1.1, inj := fun t => ((t, ()), ((), ())), pts := [], fuel := 400, dr := noDr }
noncomputable def i_AreStairs (s0_Steps : Int) (s0_Strides : List Int) (s0_Broken : List Int) : Bool :=
  bif i_within s0_Steps 1 60 then
    bif i_within (↑(List.length s0_Strides) : Int) 1 5 then
      bif i_rise_n s0_Strides 1 9 then i_rise_n s0_Broken 1 (IntKind.wrap IntKind.i64 (s0_Steps - 1)) else false
    else false
  else false
theorem i_AreStairs_e (s0_Steps : Int) (s0_Strides : List Int) (s0_Broken : List Int) : c_i_AreStairs.start c_i_AreStairs.L ((s0_Steps, s0_Strides, s0_Broken), ()) = some (i_AreStairs s0_Steps s0_Strides s0_Broken) := by
  refine Eq.trans (b := (bif i_within s0_Steps 1 60 then bif i_within (↑(List.length s0_Strides) : Int) 1 5 then bif i_rise_n s0_Strides 1 9 then some (i_rise_n s0_Broken 1 (IntKind.wrap IntKind.i64 (s0_Steps - 1))) else some false else some false else some false : Option Bool)) (by kernel_rfl) ?_
  unfold i_AreStairs
  repeat (first | rfl | apply condS)
theorem i_AreStairs_eq (a : Int) (b c : List Int) : i_AreStairs a b c = s_clGood a b c := by
  unfold i_AreStairs s_clGood
  simp only [i_within_inB, s_l1In_inB]
  rfl
noncomputable def F_i_AreStairs : Ins c_i_AreStairs.ins → Bool := fun x => i_AreStairs x.1.1 x.1.2.1 x.1.2.2
noncomputable def S_i_AreStairs : FSpec := mkT c_i_AreStairs.env.pre c_i_AreStairs.ins c_i_AreStairs.out c_i_AreStairs.inj F_i_AreStairs
theorem h_i_AreStairs : Cert Try.prog 245 S_i_AreStairs := FnCx.certT (c := c_i_AreStairs) F_i_AreStairs (tyOk _ _ _) (spOk ⟨h_i_within, fun _ _ _ => trivial, ⟨h_i_rise, fun _ _ _ => trivial, trivial⟩⟩) (fun _ _ _ _ _ hs => noDr_ok) Try.func245 rfl rfl Try.ntmps245 (by kernel_rfl) rfl rfl (fun _ => rfl) trivial (fun x => .inl ⟨c_i_AreStairs.start () x, fun _ => rfl⟩) (fun x hb => by
  obtain ⟨⟨s0_Steps, s0_Strides, s0_Broken⟩, _⟩ := x
  exact i_AreStairs_e s0_Steps s0_Strides s0_Broken)
/-! slices.Index[[]int,int] -/
noncomputable def c_slices_Index_int : FnCx := { env := env 19 [] [], body := bodyOf Try.f205, res := [.tmp 4], ins := [.ro kSint, .ro kint], out := [(kint, true)], T := Int, fin := fun r => r.1.1, inj := fun t => ((t, ()), ((), (), ())), pts := [([.inLoop [1, 0, 1, 0, 0], .inBlock 0, .code [1, 1]], Shape.mk [Bs.row kint 3 false] [(0, Ss.one (Cs.sl 0)), (1, Ss.one (Cs.sc kint)), (7, Ss.one (Cs.sc kint)), (8, Ss.one (Cs.sc kint))] [Ss.one (Cs.any), Ss.one (Cs.any)])], fuel := 400, dr := noDr }
noncomputable def slices_Index_int_t1 (g1 : List (Int) → Int → Int → Int → Option (Int)) (r0 : List (Int)) (v1 : Int) (s7 : Int) (s8 : Int) : Option Int :=
  bif decide (s8 < s7) then
    bif decide (0 ≤ s8) then
      bif decide (s8 < (↑(List.length r0) : Int)) then bif v1 == rdk kint r0 s8 then some s8 else g1 r0 v1 s7 (IntKind.wrap IntKind.i64 (s8 + 1))
      else none
    else none
  else some (-1)
noncomputable def slices_Index_int_t0 (g1 : List (Int) → Int → Int → Int → Option (Int)) (s0 : List Int) (v1 : Int) : Option Int :=
  g1 s0 v1 (↑(List.length s0) : Int) 0
theorem slices_Index_int_ts : Tails c_slices_Index_int.pts c_slices_Index_int.round :=
  ⟨fun s => by
    obtain ⟨⟨r0, _⟩, ⟨_, v1, s7, s8, _⟩, ⟨_, _, _⟩⟩ := s
    refine Tail.eq (Y := fun g => slices_Index_int_t1 (fun r0 v1 s7 s8 => g.1 ((r0, ()), ((), v1, s7, s8, ()), ((), (), ()))) r0 v1 s7 s8) ?_ (fun g => by kernel_rfl)
    simp only [slices_Index_int_t1]; repeat (first | exact Tail.const _ | exact Tail.here _ | exact Tail.there (Tail.here _) | exact Tail.there (Tail.there (Tail.here _)) | exact Tail.there (Tail.there (Tail.there (Tail.here _))) | exact Tail.there (Tail.there (Tail.there (Tail.there (Tail.here _)))) | exact Tail.there (Tail.there (Tail.there (Tail.there (Tail.there (Tail.here _))))) | apply Tail.cond | (apply Tail.bind; intro _)), trivial⟩
theorem slices_Index_int_hs : ∀ x, Tail c_slices_Index_int.pts (fun g => c_slices_Index_int.start g x) := fun x => by
    obtain ⟨s0, v1, _⟩ := x
    refine Tail.eq (Y := fun g => slices_Index_int_t0 (fun r0 v1 s7 s8 => g.1 ((r0, ()), ((), v1, s7, s8, ()), ((), (), ()))) s0 v1) ?_ (fun g => by kernel_rfl)
    simp only [slices_Index_int_t0]; repeat (first | exact Tail.const _ | exact Tail.here _ | exact Tail.there (Tail.here _) | exact Tail.there (Tail.there (Tail.here _)) | exact Tail.there (Tail.there (Tail.there (Tail.here _))) | exact Tail.there (Tail.there (Tail.there (Tail.there (Tail.here _)))) | exact Tail.there (Tail.there (Tail.there (Tail.there (Tail.there (Tail.here _))))) | apply Tail.cond | (apply Tail.bind; intro _))
noncomputable def slices_Index_int_L1 (r0 : List (Int)) (v1 : Int) (s7 : Int) (s8 : Int) : Option Int := c_slices_Index_int.L.1 ((r0, ()), ((), v1, s7, s8, ()), ((), (), ()))
theorem slices_Index_int_u1 (r0 : List (Int)) (v1 : Int) (s7 : Int) (s8 : Int) : slices_Index_int_L1 r0 v1 s7 s8 = slices_Index_int_t1 slices_Index_int_L1 r0 v1 s7 s8 :=
  (congrArg (fun g => g.1 ((r0, ()), ((), v1, s7, s8, ()), ((), (), ()))) (FnCx.L_eq slices_Index_int_ts)).trans (by kernel_rfl)
noncomputable def slices_Index_int (s0 : List Int) (v1 : Int) : Option Int := slices_Index_int_t0 slices_Index_int_L1 s0 v1
theorem slices_Index_int_e (s0 : List Int) (v1 : Int) : c_slices_Index_int.start c_slices_Index_int.L (s0, v1, ()) = slices_Index_int s0 v1 := by kernel_rfl
-- NICE tot
noncomputable def slices_Index_int_n (l : List Int) (v : Int) : Int := idxF (fun x => v == x) l 0
theorem slices_Index_int_ok (l : List Int) (v : Int) (hb : BdI c_slices_Index_int.ins (l, v, ())) : slices_Index_int l v = some (slices_Index_int_n l v) :=
  have hm : l.length ≤ maxLen := hb.1.1
  loop_idx (L := fun i => slices_Index_int_L1 l v l.length (i : Int)) (l := l) (p := fun x => v == x)
    (fun i h => by simp only [slices_Index_int_u1 l v l.length i, slices_Index_int_t1, rdk_get (k := kint) h, wrapS h hm]; simp [h]) (by simp [slices_Index_int_u1 l v l.length l.length, slices_Index_int_t1])
noncomputable def F_slices_Index_int : Ins c_slices_Index_int.ins → Int := fun x => slices_Index_int_n x.1 x.2.1
noncomputable def S_slices_Index_int : FSpec := mkT c_slices_Index_int.env.pre c_slices_Index_int.ins c_slices_Index_int.out c_slices_Index_int.inj F_slices_Index_int
theorem h_slices_Index_int : Cert Try.prog 205 S_slices_Index_int := FnCx.certT (c := c_slices_Index_int) F_slices_Index_int (tyOk _ _ _) (spOk trivial) (fun _ _ _ _ _ hs => noDr_ok) Try.func205 rfl rfl Try.ntmps205 (by kernel_rfl) rfl rfl (fun _ => rfl) slices_Index_int_ts slices_Index_int_hs (fun x hb => by
  obtain ⟨s0, v1, _⟩ := x
  exact (slices_Index_int_e s0 v1).trans (slices_Index_int_ok s0 v1 hb))
/-! slices.Contains[[]int,int] -/
noncomputable def c_slices_Contains_int : FnCx := { env := env 9 [(205, S_slices_Index_int)] [], body := bodyOf Try.f216, res := [.tmp 4], ins := [.ro kSint, .ro kint], out := [(kbool, true)], T := Bool, fin := fun r => r.1.1, inj := fun t => ((t, ()), ((), (), ())), pts := [], fuel := 400, dr := noDr }
noncomputable def slices_Contains_int (s0 : List Int) (v1 : Int) : Bool :=
  decide (slices_Index_int_n s0 v1 ≥ 0)
theorem slices_Contains_int_e (s0 : List Int) (v1 : Int) : c_slices_Contains_int.start c_slices_Contains_int.L (s0, v1, ()) = some (slices_Contains_int s0 v1) := by kernel_rfl
theorem slices_Contains_int_eq (l : List Int) (v : Int) : slices_Contains_int l v = decide (v ∈ l) := by
  unfold slices_Contains_int slices_Index_int_n
  rw [idxF_any]
  induction l with
  | nil => rfl
  | cons x l ih => rw [List.any_cons, ih]; by_cases h : v = x <;> simp [h]
noncomputable def F_slices_Contains_int : Ins c_slices_Contains_int.ins → Bool := fun x => slices_Contains_int x.1 x.2.1
noncomputable def S_slices_Contains_int : FSpec := mkT c_slices_Contains_int.env.pre c_slices_Contains_int.ins c_slices_Contains_int.out c_slices_Contains_int.inj F_slices_Contains_int
theorem h_slices_Contains_int : Cert Try.prog 216 S_slices_Contains_int := FnCx.certT (c := c_slices_Contains_int) F_slices_Contains_int (tyOk _ _ _) (spOk ⟨h_slices_Index_int, fun _ _ _ => trivial, trivial⟩) (fun _ _ _ _ _ hs => noDr_ok) Try.func216 rfl rfl Try.ntmps216 (by kernel_rfl) rfl rfl (fun _ => rfl) trivial (fun x => .inl ⟨c_slices_Contains_int.start () x, fun _ => rfl⟩) (fun x hb => by
  obtain ⟨s0, v1, _⟩ := x
  exact slices_Contains_int_e s0 v1)
/-! (impl.Stairs).isBroken -/
noncomputable def c_i_Stairs_isBroken : FnCx := { env := env 9 [(216, S_slices_Contains_int)] [], body := bodyOf Try.f252, res := [.tmp 4], ins := [.ro kStairs, .ro kint], out := [(kbool, true)], T := Bool, fin := fun r => r.1.1, inj := fun t => ((t, ()), ((), (), ())), pts := [], fuel := 400, dr := noDr }
noncomputable def i_Stairs_isBroken (s0_Steps : Int) (s0_Strides : List Int) (s0_Broken : List Int) (step1 : Int) : Bool :=
  slices_Contains_int s0_Broken step1
theorem i_Stairs_isBroken_e (s0_Steps : Int) (s0_Strides : List Int) (s0_Broken : List Int) (step1 : Int) : c_i_Stairs_isBroken.start c_i_Stairs_isBroken.L ((s0_Steps, s0_Strides, s0_Broken), step1, ()) = some (i_Stairs_isBroken s0_Steps s0_Strides s0_Broken step1) := by kernel_rfl
noncomputable def F_i_Stairs_isBroken : Ins c_i_Stairs_isBroken.ins → Bool := fun x => i_Stairs_isBroken x.1.1 x.1.2.1 x.1.2.2 x.2.1
noncomputable def S_i_Stairs_isBroken : FSpec := mkT c_i_Stairs_isBroken.env.pre c_i_Stairs_isBroken.ins c_i_Stairs_isBroken.out c_i_Stairs_isBroken.inj F_i_Stairs_isBroken
theorem h_i_Stairs_isBroken : Cert Try.prog 252 S_i_Stairs_isBroken := FnCx.certT (c := c_i_Stairs_isBroken) F_i_Stairs_isBroken (tyOk _ _ _) (spOk ⟨h_slices_Contains_int, fun _ _ _ => trivial, trivial⟩) (fun _ _ _ _ _ hs => noDr_ok) Try.func252 rfl rfl Try.ntmps252 (by kernel_rfl) rfl rfl (fun _ => rfl) trivial (fun x => .inl ⟨c_i_Stairs_isBroken.start () x, fun _ => rfl⟩) (fun x hb => by
  obtain ⟨⟨s0_Steps, s0_Strides, s0_Broken⟩, step1, _⟩ := x
  exact i_Stairs_isBroken_e s0_Steps s0_Strides s0_Broken step1)
/-! slices.Clone[[]int,int] -/
noncomputable def c_slices_Clone_int : FnCx := { env := env 8 [] [], body := bodyOf Try.f285, res := [.tmp 2], ins := [.ro kSint], out := [(kSint, true)], T := List Int, fin := fun r => r.1.1, inj := fun t => ((t, ()), ((), ())), pts := [], fuel := 400, dr := noDr }
noncomputable def slices_Clone_int (s0 : List Int) : Option (List Int) :=
  bif decide (0 < (↑(List.length s0) : Int)) then bif Nat.ble (0 + List.length s0) 4294967296 then some ([] ++ s0) else none
  else both (some []) (bif Nat.ble (0 + List.length s0) 4294967296 then some ([] ++ s0) else none)
theorem slices_Clone_int_e (s0 : List Int) : c_slices_Clone_int.start c_slices_Clone_int.L (s0, ()) = slices_Clone_int s0 := by kernel_rfl
-- NICE opt
noncomputable def slices_Clone_int_n (s : List Int) : Option (List Int) := bif decide (s.length ≤ 4294967296) then some s else none
theorem slices_Clone_int_ok (s : List Int) (hb : BdI c_slices_Clone_int.ins (s, ())) (t : List Int) (ht : slices_Clone_int_n s = some t) : slices_Clone_int s = some t := by
  unfold slices_Clone_int_n at ht
  cases h : decide (s.length ≤ 4294967296)
  · rw [h] at ht; cases ht
  · rw [h] at ht; cases ht
    have h := of_decide_eq_true h
    unfold slices_Clone_int
    cases s with
    | nil => simp [ble_dec, both_same]
    | cons x l =>
      have h' : l.length + 1 ≤ 4294967296 := h
      have h2 : (0 : Int) < l.length + 1 := by omega
      simp [ble_dec, h', h2]
noncomputable def F_slices_Clone_int : Ins c_slices_Clone_int.ins → Option (List Int) := fun x => slices_Clone_int_n x.1
noncomputable def S_slices_Clone_int : FSpec := mkF c_slices_Clone_int.env.pre c_slices_Clone_int.ins c_slices_Clone_int.out c_slices_Clone_int.inj F_slices_Clone_int
theorem h_slices_Clone_int : Cert Try.prog 285 S_slices_Clone_int := FnCx.certF (c := c_slices_Clone_int) F_slices_Clone_int (tyOk _ _ _) (spOk trivial) (fun _ _ _ _ _ hs => noDr_ok) Try.func285 rfl rfl Try.ntmps285 (by kernel_rfl) rfl rfl (fun _ => rfl) trivial (fun x => .inl ⟨c_slices_Clone_int.start () x, fun _ => rfl⟩) (fun x t hb ht => by
  obtain ⟨s0, _⟩ := x
  exact (slices_Clone_int_e s0).trans (slices_Clone_int_ok s0 hb t ht))
/-! (impl.Stairs).copied -/
noncomputable def c_i_Stairs_copied : FnCx := { env := env 12 [(285, S_slices_Clone_int)] [], body := bodyOf Try.f254, res := [.cell 2 96], ins := [.ro kStairs], out := [(kStairs, true)], T := (Int × List Int × List Int), fin := fun r => r.1.1, inj := fun t => ((t, ()), ((), ())), pts := [], fuel := 400, dr := evDr (env 12 [(285, S_slices_Clone_int)] []) }
noncomputable def i_Stairs_copied (s0_Steps : Int) (s0_Strides : List Int) (s0_Broken : List Int) : Option ((Int × List Int × List Int)) :=
  Option.bind (slices_Clone_int_n s0_Strides) fun r => Option.bind (slices_Clone_int_n s0_Broken) fun r_1 => some (s0_Steps, r, r_1)
theorem i_Stairs_copied_e (s0_Steps : Int) (s0_Strides : List Int) (s0_Broken : List Int) : c_i_Stairs_copied.start c_i_Stairs_copied.L ((s0_Steps, s0_Strides, s0_Broken), ()) = i_Stairs_copied s0_Steps s0_Strides s0_Broken := by kernel_rfl
noncomputable def F_i_Stairs_copied : Ins c_i_Stairs_copied.ins → Option ((Int × List Int × List Int)) := fun x => i_Stairs_copied x.1.1 x.1.2.1 x.1.2.2
noncomputable def S_i_Stairs_copied : FSpec := mkF c_i_Stairs_copied.env.pre c_i_Stairs_copied.ins c_i_Stairs_copied.out c_i_Stairs_copied.inj F_i_Stairs_copied
theorem h_i_Stairs_copied : Cert Try.prog 254 S_i_Stairs_copied := FnCx.certF (c := c_i_Stairs_copied) F_i_Stairs_copied (tyOk _ _ _) (spOk ⟨h_slices_Clone_int, fun _ _ _ => trivial, trivial⟩) (fun _ _ _ _ _ hs => evDr_ok (tyOk _ _ _) hs follows) Try.func254 rfl rfl Try.ntmps254 (by kernel_rfl) rfl rfl (fun _ => rfl) trivial (fun x => .inl ⟨c_i_Stairs_copied.start () x, fun _ => rfl⟩) (fun x t hb ht => by
  obtain ⟨⟨s0_Steps, s0_Strides, s0_Broken⟩, _⟩ := x
  exact (i_Stairs_copied_e s0_Steps s0_Strides s0_Broken).trans ht)
/-! slices.Sort[[]int,int] -/
noncomputable def slices_Sort_int (l : List Int) : Option (List Int) := sortIF l
noncomputable def F_slices_Sort_int : Ins [.wr kSint] → Option (List Int) := fun x => slices_Sort_int x.1
noncomputable def S_slices_Sort_int : FSpec := mkF (T := List Int) WPre.none [.wr kSint] [] (fun t => ((), (t, ()))) F_slices_Sort_int
theorem h_slices_Sort_int : Cert Try.prog 264 S_slices_Sort_int := sortI_cert lsortI rfl ⟨_, Try.func264, rfl, by kernel_rfl⟩
/-! impl.BreakStep -/
noncomputable def c_i_BreakStep : FnCx := { env := env 36 [(245, S_i_AreStairs), (175, S_i_within), (252, S_i_Stairs_isBroken), (254, S_i_Stairs_copied), (264, S_slices_Sort_int)] [], body := bodyOf Try.f161, res := [.cell 4 96, .tmp 5], ins := [.ro kStairs, .ro kint], out := [(kStairs, true), (kbool, true)], T := (Int × List Int × List Int) × Bool, fin := fun r => (r.1.1, r.1.2.1), inj := fun t => ((t.1, t.2, ()), ((), (), ())), pts := [], fuel := 400, dr := noDr }
noncomputable def i_BreakStep (s0_Steps : Int) (s0_Strides : List Int) (s0_Broken : List Int) (step1 : Int) : Option ((Int × List Int × List Int) × Bool) :=
  bif !i_AreStairs s0_Steps s0_Strides s0_Broken then some ((0, [], []), false)
  else
    bif !i_within step1 1 (IntKind.wrap IntKind.i64 (s0_Steps - 1)) then some ((0, [], []), false)
    else
      bif i_Stairs_isBroken s0_Steps s0_Strides s0_Broken step1 then some ((0, [], []), false)
      else
        Option.bind (i_Stairs_copied s0_Steps s0_Strides s0_Broken) fun r =>
          bif Nat.ble (List.length (Prod.snd (Prod.snd r)) + 1) 4294967296 then
            Option.bind (slices_Sort_int (Prod.snd (Prod.snd r) ++ [step1])) fun r_1 => some ((Prod.fst r, Prod.fst (Prod.snd r), r_1), true)
          else none
theorem i_BreakStep_e (s0_Steps : Int) (s0_Strides : List Int) (s0_Broken : List Int) (step1 : Int) : c_i_BreakStep.start c_i_BreakStep.L ((s0_Steps, s0_Strides, s0_Broken), step1, ()) = i_BreakStep s0_Steps s0_Strides s0_Broken step1 := by kernel_rfl
noncomputable def F_i_BreakStep : Ins c_i_BreakStep.ins → Option ((Int × List Int × List Int) × Bool) := fun x => i_BreakStep x.1.1 x.1.2.1 x.1.2.2 x.2.1
noncomputable def S_i_BreakStep : FSpec := mkF c_i_BreakStep.env.pre c_i_BreakStep.ins c_i_BreakStep.out c_i_BreakStep.inj F_i_BreakStep
theorem h_i_BreakStep : Cert Try.prog 161 S_i_BreakStep := FnCx.certF (c := c_i_BreakStep) F_i_BreakStep (tyOk _ _ _) (spOk ⟨h_i_AreStairs, fun _ _ _ => trivial, ⟨h_i_within, fun _ _ _ => trivial, ⟨h_i_Stairs_isBroken, fun _ _ _ => trivial, ⟨h_i_Stairs_copied, fun _ _ _ => trivial, ⟨h_slices_Sort_int, fun _ _ _ => trivial, trivial⟩⟩⟩⟩⟩) (fun _ _ _ _ _ hs => noDr_ok) Try.func161 rfl rfl Try.ntmps161 (by kernel_rfl) rfl rfl (fun _ => rfl) trivial (fun x => .inl ⟨c_i_BreakStep.start () x, fun _ => rfl⟩) (fun x t hb ht => by
  obtain ⟨⟨s0_Steps, s0_Strides, s0_Broken⟩, step1, _⟩ := x
  exact (i_BreakStep_e s0_Steps s0_Strides s0_Broken step1).trans ht)
/-! laws.eqIntS -/
noncomputable def c_w_eqIntS : FnCx := { env := env 26 [] [], body := bodyOf Try.f120, res := [.tmp 4], ins := [.ro kSint, .ro kSint], out := [(kbool, true)], T := Bool, fin := fun r => r.1.1, inj := fun t => ((t, ()), ((), (), ())), pts := [([.inLoop [1, 1, 0, 1, 0, 0], .inBlock 0, .code [1, 1, 1]], Shape.mk [Bs.row kint 3 false, Bs.row kint 3 false] [(0, Ss.one (Cs.sl 0)), (1, Ss.one (Cs.sl 1)), (5, Ss.one (Cs.sc kint))] [Ss.one (Cs.any), Ss.one (Cs.any)])], fuel := 400, dr := evDr (env 26 [] []) }
noncomputable def w_eqIntS_t1 (g1 : List (Int) → List (Int) → Int → Option (Bool)) (r0 : List (Int)) (r1 : List (Int)) (i5 : Int) : Option Bool :=
  bif decide (i5 < (↑(List.length r0) : Int)) then
    bif decide (0 ≤ i5) then
      bif decide (i5 < (↑(List.length r0) : Int)) then
        bif decide (0 ≤ i5) then
          bif decide (i5 < (↑(List.length r1) : Int)) then
            bif rdk kint r0 i5 != rdk kint r1 i5 then some false else g1 r0 r1 (IntKind.wrap IntKind.i64 (i5 + 1))
          else none
        else none
      else none
    else none
  else some true
noncomputable def w_eqIntS_t0 (g1 : List (Int) → List (Int) → Int → Option (Bool)) (a0 : List Int) (b1 : List Int) : Option Bool :=
  bif (↑(List.length a0) : Int) != (↑(List.length b1) : Int) then some false else g1 a0 b1 0
theorem w_eqIntS_ts : Tails c_w_eqIntS.pts c_w_eqIntS.round :=
  ⟨fun s => by
    obtain ⟨⟨r0, r1, _⟩, ⟨_, _, i5, _⟩, ⟨_, _, _⟩⟩ := s
    refine Tail.eq (Y := fun g => w_eqIntS_t1 (fun r0 r1 i5 => g.1 ((r0, r1, ()), ((), (), i5, ()), ((), (), ()))) r0 r1 i5) ?_ (fun g => by kernel_rfl)
    simp only [w_eqIntS_t1]; repeat (first | exact Tail.const _ | exact Tail.here _ | exact Tail.there (Tail.here _) | exact Tail.there (Tail.there (Tail.here _)) | exact Tail.there (Tail.there (Tail.there (Tail.here _))) | exact Tail.there (Tail.there (Tail.there (Tail.there (Tail.here _)))) | exact Tail.there (Tail.there (Tail.there (Tail.there (Tail.there (Tail.here _))))) | apply Tail.cond | (apply Tail.bind; intro _)), trivial⟩
theorem w_eqIntS_hs : ∀ x, Tail c_w_eqIntS.pts (fun g => c_w_eqIntS.start g x) := fun x => by
    obtain ⟨a0, b1, _⟩ := x
    refine Tail.eq (Y := fun g => w_eqIntS_t0 (fun r0 r1 i5 => g.1 ((r0, r1, ()), ((), (), i5, ()), ((), (), ()))) a0 b1) ?_ (fun g => by kernel_rfl)
    simp only [w_eqIntS_t0]; repeat (first | exact Tail.const _ | exact Tail.here _ | exact Tail.there (Tail.here _) | exact Tail.there (Tail.there (Tail.here _)) | exact Tail.there (Tail.there (Tail.there (Tail.here _))) | exact Tail.there (Tail.there (Tail.there (Tail.there (Tail.here _)))) | exact Tail.there (Tail.there (Tail.there (Tail.there (Tail.there (Tail.here _))))) | apply Tail.cond | (apply Tail.bind; intro _))
noncomputable def w_eqIntS_L1 (r0 : List (Int)) (r1 : List (Int)) (i5 : Int) : Option Bool := c_w_eqIntS.L.1 ((r0, r1, ()), ((), (), i5, ()), ((), (), ()))
theorem w_eqIntS_u1 (r0 : List (Int)) (r1 : List (Int)) (i5 : Int) : w_eqIntS_L1 r0 r1 i5 = w_eqIntS_t1 w_eqIntS_L1 r0 r1 i5 :=
  (congrArg (fun g => g.1 ((r0, r1, ()), ((), (), i5, ()), ((), (), ()))) (FnCx.L_eq w_eqIntS_ts)).trans (by kernel_rfl)
noncomputable def w_eqIntS (a0 : List Int) (b1 : List Int) : Option Bool := w_eqIntS_t0 w_eqIntS_L1 a0 b1
theorem w_eqIntS_e (a0 : List Int) (b1 : List Int) : c_w_eqIntS.start c_w_eqIntS.L (a0, b1, ()) = w_eqIntS a0 b1 := by kernel_rfl
-- NICE tot
noncomputable def w_eqIntS_n (a b : List Int) : Bool := decide (a = b)
theorem w_eqIntS_ok (a b : List Int) (hb : BdI c_w_eqIntS.ins (a, b, ())) : w_eqIntS a b = some (w_eqIntS_n a b) := by
  unfold w_eqIntS w_eqIntS_t0 w_eqIntS_n
  by_cases hl : a.length = b.length
  · have e := loop_eq (L := fun i => w_eqIntS_L1 a b (i : Int)) hl (fun i h h' => by
        simp only [w_eqIntS_u1 a b i, w_eqIntS_t1, rdk_get (k := kint) h, rdk_get (k := kint) h', wrapS h hb.1.1]
        have hne : (a[i] != b[i]) = !decide (a[i] = b[i]) := rfl
        by_cases hx : a[i] = b[i] <;> simp [h, h', hx, hne]) (by simp [w_eqIntS_u1 a b a.length, w_eqIntS_t1])
    simpa [hl] using e
  · have hab : a ≠ b := fun e => hl (by rw [e])
    have : ((a.length : Int) != (b.length : Int)) = true := by simp; omega
    rw [this]
    simp [hab]
noncomputable def F_w_eqIntS : Ins c_w_eqIntS.ins → Bool := fun x => w_eqIntS_n x.1 x.2.1
noncomputable def S_w_eqIntS : FSpec := mkT c_w_eqIntS.env.pre c_w_eqIntS.ins c_w_eqIntS.out c_w_eqIntS.inj F_w_eqIntS
theorem h_w_eqIntS : Cert Try.prog 120 S_w_eqIntS := FnCx.certT (c := c_w_eqIntS) F_w_eqIntS (tyOk _ _ _) (spOk trivial) (fun _ _ _ _ _ hs => evDr_ok (tyOk _ _ _) hs follows) Try.func120 rfl rfl Try.ntmps120 (by kernel_rfl) rfl rfl (fun _ => rfl) w_eqIntS_ts w_eqIntS_hs (fun x hb => by
  obtain ⟨a0, b1, _⟩ := x
  exact (w_eqIntS_e a0 b1).trans (w_eqIntS_ok a0 b1 hb))
/-! laws.eqStairs -/
noncomputable def c_w_eqStairs : FnCx := { env := env 22 [(120, S_w_eqIntS)] [], body := bodyOf Try.f162, res := [.tmp 4], ins := [.ro kStairs, .ro kStairs], out := [(kbool, true)], T := Bool, fin := fun r => r.1.1, inj := fun t => ((t, ()), ((), (), ())), pts := [], fuel := 400, dr := noDr }
noncomputable def w_eqStairs (a0_Steps : Int) (a0_Strides : List Int) (a0_Broken : List Int) (b1_Steps : Int) (b1_Strides : List Int) (b1_Broken : List Int) : Bool :=
  bif a0_Steps != b1_Steps then false else bif !w_eqIntS_n a0_Strides b1_Strides then false else bif !w_eqIntS_n a0_Broken b1_Broken then false else true
theorem w_eqStairs_e (a0_Steps : Int) (a0_Strides : List Int) (a0_Broken : List Int) (b1_Steps : Int) (b1_Strides : List Int) (b1_Broken : List Int) : c_w_eqStairs.start c_w_eqStairs.L ((a0_Steps, a0_Strides, a0_Broken), (b1_Steps, b1_Strides, b1_Broken), ()) = some (w_eqStairs a0_Steps a0_Strides a0_Broken b1_Steps b1_Strides b1_Broken) := by
  refine Eq.trans (b := (bif a0_Steps != b1_Steps then some false else bif !w_eqIntS_n a0_Strides b1_Strides then some false else bif !w_eqIntS_n a0_Broken b1_Broken then some false else some true : Option Bool)) (by kernel_rfl) ?_
  unfold w_eqStairs
  repeat (first | rfl | apply condS)
theorem szIntS_le {l : List Int} {k : Int} (h : l.length ≤ maxLen) (h0 : 0 ≤ k) (h1 : k ≤ 1048576) (hs : decide (w_szIntS l k < 0) = false) : (l.length : Int) ≤ k ∧ w_szIntS l k = k - l.length := by
  rw [maxLen_eq] at h
  unfold w_szIntS at hs ⊢
  rw [wrap64 (by omega) (by omega)] at hs ⊢
  by_cases hh : (k - (l.length : Int)) < 0
  · simp [hh] at hs
  · simp [hh]; omega
theorem szStairs_le {a : Int} {b c : List Int} (h : b.length ≤ maxLen) (h' : c.length ≤ maxLen) (hs : decide (w_szStairs a b c 1048576 < 0) = false) : b.length ≤ 1048576 ∧ c.length ≤ 1048576 := by
  unfold w_szStairs at hs
  cases h1 : decide (w_szIntS b 1048576 < 0)
  · obtain ⟨g1, g2⟩ := szIntS_le h (by omega) (by omega) h1
    rw [h1] at hs
    simp only [cond_false] at hs
    cases h2 : decide (w_szIntS c (w_szIntS b 1048576) < 0)
    · obtain ⟨g3, g4⟩ := szIntS_le h' (by omega) (by omega) h2
      omega
    · rw [h2] at hs; simp at hs
  · rw [h1] at hs; simp at hs
theorem toStairs_eq {a : Int} {b c : List Int} (h : b.length ≤ 1048576) (h' : c.length ≤ 1048576) : w_toStairs a b c = some (a, b, c) := by
  unfold w_toStairs w_toIntS_n
  rw [decide_eq_true (by omega : b.length ≤ 4294967296), decide_eq_true (by omega : c.length ≤ 4294967296)]
  rfl
theorem eqStairs_eq (a b : Int × List Int × List Int) : w_eqStairs a.1 a.2.1 a.2.2 b.1 b.2.1 b.2.2 = decide (a = b) := by
  obtain ⟨a1, a2, a3⟩ := a
  obtain ⟨b1, b2, b3⟩ := b
  unfold w_eqStairs w_eqIntS_n
  by_cases h1 : a1 = b1 <;> by_cases h2 : a2 = b2 <;> by_cases h3 : a3 = b3 <;> simp [h1, h2, h3]
noncomputable def F_w_eqStairs : Ins c_w_eqStairs.ins → Bool := fun x => w_eqStairs x.1.1 x.1.2.1 x.1.2.2 x.2.1.1 x.2.1.2.1 x.2.1.2.2
noncomputable def S_w_eqStairs : FSpec := mkT c_w_eqStairs.env.pre c_w_eqStairs.ins c_w_eqStairs.out c_w_eqStairs.inj F_w_eqStairs
theorem h_w_eqStairs : Cert Try.prog 162 S_w_eqStairs := FnCx.certT (c := c_w_eqStairs) F_w_eqStairs (tyOk _ _ _) (spOk ⟨h_w_eqIntS, fun _ _ _ => trivial, trivial⟩) (fun _ _ _ _ _ hs => noDr_ok) Try.func162 rfl rfl Try.ntmps162 (by kernel_rfl) rfl rfl (fun _ => rfl) trivial (fun x => .inl ⟨c_w_eqStairs.start () x, fun _ => rfl⟩) (fun x hb => by
  obtain ⟨⟨a0_Steps, a0_Strides, a0_Broken⟩, ⟨b1_Steps, b1_Strides, b1_Broken⟩, _⟩ := x
  exact w_eqStairs_e a0_Steps a0_Strides a0_Broken b1_Steps b1_Strides b1_Broken)
/-! laws.markIntS -/
noncomputable def c_w_markIntS : FnCx := { env := env 19 [] [], body := bodyOf Try.f125, res := [.tmp 4], ins := [.wr kSint, .ro kint], out := [(kint, true)], T := Int × List Int, fin := fun r => (r.1.1, r.2.1), inj := fun t => ((t.1, ()), (t.2, (), ())), pts := [([.inLoop [1, 0, 1, 0, 0], .inBlock 0, .code [1, 1]], Shape.mk [Bs.row kint 3 true] [(0, Ss.one (Cs.sl 0)), (1, Ss.one (Cs.sc kint)), (5, Ss.one (Cs.sc kint))] [Ss.one (Cs.sl 0), Ss.one (Cs.any)])], fuel := 400, dr := noDr }
noncomputable def w_markIntS_t1 (g1 : List (Int) → Int → Int → Option (Int × List Int)) (r0 : List (Int)) (k1 : Int) (i5 : Int) : Option (Int × List Int) :=
  bif decide (i5 < (↑(List.length r0) : Int)) then
    bif decide (0 ≤ i5) then
      bif decide (i5 < (↑(List.length r0) : Int)) then g1 (List.set r0 (Int.toNat i5) k1) (IntKind.wrap IntKind.i64 (k1 + 1)) (IntKind.wrap IntKind.i64 (i5 + 1))
      else none
    else none
  else some (k1, r0)
noncomputable def w_markIntS_t0 (g1 : List (Int) → Int → Int → Option (Int × List Int)) (a0 : List Int) (k1 : Int) : Option (Int × List Int) :=
  g1 a0 k1 0
theorem w_markIntS_ts : Tails c_w_markIntS.pts c_w_markIntS.round :=
  ⟨fun s => by
    obtain ⟨⟨r0, _⟩, ⟨_, k1, i5, _⟩, ⟨_, _, _⟩⟩ := s
    refine Tail.eq (Y := fun g => w_markIntS_t1 (fun r0 k1 i5 => g.1 ((r0, ()), ((), k1, i5, ()), ((), (), ()))) r0 k1 i5) ?_ (fun g => by kernel_rfl)
    simp only [w_markIntS_t1]; repeat (first | exact Tail.const _ | exact Tail.here _ | exact Tail.there (Tail.here _) | exact Tail.there (Tail.there (Tail.here _)) | exact Tail.there (Tail.there (Tail.there (Tail.here _))) | exact Tail.there (Tail.there (Tail.there (Tail.there (Tail.here _)))) | exact Tail.there (Tail.there (Tail.there (Tail.there (Tail.there (Tail.here _))))) | apply Tail.cond | (apply Tail.bind; intro _)), trivial⟩
theorem w_markIntS_hs : ∀ x, Tail c_w_markIntS.pts (fun g => c_w_markIntS.start g x) := fun x => by
    obtain ⟨a0, k1, _⟩ := x
    refine Tail.eq (Y := fun g => w_markIntS_t0 (fun r0 k1 i5 => g.1 ((r0, ()), ((), k1, i5, ()), ((), (), ()))) a0 k1) ?_ (fun g => by kernel_rfl)
    simp only [w_markIntS_t0]; repeat (first | exact Tail.const _ | exact Tail.here _ | exact Tail.there (Tail.here _) | exact Tail.there (Tail.there (Tail.here _)) | exact Tail.there (Tail.there (Tail.there (Tail.here _))) | exact Tail.there (Tail.there (Tail.there (Tail.there (Tail.here _)))) | exact Tail.there (Tail.there (Tail.there (Tail.there (Tail.there (Tail.here _))))) | apply Tail.cond | (apply Tail.bind; intro _))
noncomputable def w_markIntS_L1 (r0 : List (Int)) (k1 : Int) (i5 : Int) : Option (Int × List Int) := c_w_markIntS.L.1 ((r0, ()), ((), k1, i5, ()), ((), (), ()))
theorem w_markIntS_u1 (r0 : List (Int)) (k1 : Int) (i5 : Int) : w_markIntS_L1 r0 k1 i5 = w_markIntS_t1 w_markIntS_L1 r0 k1 i5 :=
  (congrArg (fun g => g.1 ((r0, ()), ((), k1, i5, ()), ((), (), ()))) (FnCx.L_eq w_markIntS_ts)).trans (by kernel_rfl)
noncomputable def w_markIntS (a0 : List Int) (k1 : Int) : Option (Int × List Int) := w_markIntS_t0 w_markIntS_L1 a0 k1
theorem w_markIntS_e (a0 : List Int) (k1 : Int) : c_w_markIntS.start c_w_markIntS.L (a0, k1, ()) = w_markIntS a0 k1 := by kernel_rfl
-- NICE tot
noncomputable def w_markIntS_n (a : List Int) (k : Int) : Int × List Int := (markK a k, markL a k)
theorem w_markIntS_ok (a : List Int) (k : Int) (hb : BdI c_w_markIntS.ins (a, k, ())) : w_markIntS a k = some (w_markIntS_n a k) :=
  loop_mark (L := fun i r k => w_markIntS_L1 r k (i : Int)) (n := a.length)
    (fun i r k hr hi => by
      simp only [w_markIntS_u1 r k i, w_markIntS_t1, wrapS hi hb.1.1, Int.toNat_natCast]
      simp [hr, hi]) (fun r k hr => by simp [w_markIntS_u1 r k a.length, w_markIntS_t1, hr]) a k rfl
noncomputable def F_w_markIntS : Ins c_w_markIntS.ins → (Int × List Int) := fun x => w_markIntS_n x.1 x.2.1
noncomputable def S_w_markIntS : FSpec := mkT c_w_markIntS.env.pre c_w_markIntS.ins c_w_markIntS.out c_w_markIntS.inj F_w_markIntS
theorem h_w_markIntS : Cert Try.prog 125 S_w_markIntS := FnCx.certT (c := c_w_markIntS) F_w_markIntS (tyOk _ _ _) (spOk trivial) (fun _ _ _ _ _ hs => noDr_ok) Try.func125 rfl rfl Try.ntmps125 (by kernel_rfl) rfl rfl (fun _ => rfl) w_markIntS_ts w_markIntS_hs (fun x hb => by
  obtain ⟨a0, k1, _⟩ := x
  exact (w_markIntS_e a0 k1).trans (w_markIntS_ok a0 k1 hb))
/-! laws.markStairs -/
noncomputable def c_w_markStairs : FnCx := { env := env 14 [(125, S_w_markIntS)] [], body := bodyOf Try.f163, res := [.tmp 4], ins := [.wr kStairs, .ro kint], out := [(kint, true)], T := Int × (Int × List Int × List Int), fin := fun r => (r.1.1, r.2.1), inj := fun t => ((t.1, ()), (t.2, (), ())), pts := [], fuel := 400, dr := noDr }
noncomputable def w_markStairs (a0_Steps : Int) (a0_Strides : List Int) (a0_Broken : List Int) (k1 : Int) : (Int × (Int × List Int × List Int)) :=
  (markK a0_Broken (markK a0_Strides k1), a0_Steps, markL a0_Strides k1, markL a0_Broken (markK a0_Strides k1))
theorem w_markStairs_e (a0_Steps : Int) (a0_Strides : List Int) (a0_Broken : List Int) (k1 : Int) : c_w_markStairs.start c_w_markStairs.L ((a0_Steps, a0_Strides, a0_Broken), k1, ()) = some (w_markStairs a0_Steps a0_Strides a0_Broken k1) := by kernel_rfl
noncomputable def F_w_markStairs : Ins c_w_markStairs.ins → (Int × (Int × List Int × List Int)) := fun x => w_markStairs x.1.1 x.1.2.1 x.1.2.2 x.2.1
noncomputable def S_w_markStairs : FSpec := mkT c_w_markStairs.env.pre c_w_markStairs.ins c_w_markStairs.out c_w_markStairs.inj F_w_markStairs
theorem h_w_markStairs : Cert Try.prog 163 S_w_markStairs := FnCx.certT (c := c_w_markStairs) F_w_markStairs (tyOk _ _ _) (spOk ⟨h_w_markIntS, fun _ _ _ => trivial, trivial⟩) (fun _ _ _ _ _ hs => noDr_ok) Try.func163 rfl rfl Try.ntmps163 (by kernel_rfl) rfl rfl (fun _ => rfl) trivial (fun x => .inl ⟨c_w_markStairs.start () x, fun _ => rfl⟩) (fun x hb => by
  obtain ⟨⟨a0_Steps, a0_Strides, a0_Broken⟩, k1, _⟩ := x
  exact w_markStairs_e a0_Steps a0_Strides a0_Broken k1)
/-! laws.heldIntS -/
noncomputable def c_w_heldIntS : FnCx := { env := env 21 [] [], body := bodyOf Try.f126, res := [.tmp 4], ins := [.ro kSint, .ro kint], out := [(kint, true)], T := Int, fin := fun r => r.1.1, inj := fun t => ((t, ()), ((), (), ())), pts := [([.inLoop [1, 0, 1, 0, 0], .inBlock 0, .code [1, 1]], Shape.mk [Bs.row kint 3 false] [(0, Ss.one (Cs.sl 0)), (1, Ss.one (Cs.sc kint)), (5, Ss.one (Cs.sc kint))] [Ss.one (Cs.any), Ss.one (Cs.any)])], fuel := 400, dr := noDr }
noncomputable def w_heldIntS_t1 (g1 : List (Int) → Int → Int → Option (Int)) (r0 : List (Int)) (k1 : Int) (i5 : Int) : Option Int :=
  bif decide (i5 < (↑(List.length r0) : Int)) then
    bif decide (0 ≤ i5) then
      bif decide (i5 < (↑(List.length r0) : Int)) then
        bif rdk kint r0 i5 != k1 then some (-1) else g1 r0 (IntKind.wrap IntKind.i64 (k1 + 1)) (IntKind.wrap IntKind.i64 (i5 + 1))
      else none
    else none
  else some k1
noncomputable def w_heldIntS_t0 (g1 : List (Int) → Int → Int → Option (Int)) (a0 : List Int) (k1 : Int) : Option Int :=
  g1 a0 k1 0
theorem w_heldIntS_ts : Tails c_w_heldIntS.pts c_w_heldIntS.round :=
  ⟨fun s => by
    obtain ⟨⟨r0, _⟩, ⟨_, k1, i5, _⟩, ⟨_, _, _⟩⟩ := s
    refine Tail.eq (Y := fun g => w_heldIntS_t1 (fun r0 k1 i5 => g.1 ((r0, ()), ((), k1, i5, ()), ((), (), ()))) r0 k1 i5) ?_ (fun g => by kernel_rfl)
    simp only [w_heldIntS_t1]; repeat (first | exact Tail.const _ | exact Tail.here _ | exact Tail.there (Tail.here _) | exact Tail.there (Tail.there (Tail.here _)) | exact Tail.there (Tail.there (Tail.there (Tail.here _))) | exact Tail.there (Tail.there (Tail.there (Tail.there (Tail.here _)))) | exact Tail.there (Tail.there (Tail.there (Tail.there (Tail.there (Tail.here _))))) | apply Tail.cond | (apply Tail.bind; intro _)), trivial⟩
theorem w_heldIntS_hs : ∀ x, Tail c_w_heldIntS.pts (fun g => c_w_heldIntS.start g x) := fun x => by
    obtain ⟨a0, k1, _⟩ := x
    refine Tail.eq (Y := fun g => w_heldIntS_t0 (fun r0 k1 i5 => g.1 ((r0, ()), ((), k1, i5, ()), ((), (), ()))) a0 k1) ?_ (fun g => by kernel_rfl)
    simp only [w_heldIntS_t0]; repeat (first | exact Tail.const _ | exact Tail.here _ | exact Tail.there (Tail.here _) | exact Tail.there (Tail.there (Tail.here _)) | exact Tail.there (Tail.there (Tail.there (Tail.here _))) | exact Tail.there (Tail.there (Tail.there (Tail.there (Tail.here _)))) | exact Tail.there (Tail.there (Tail.there (Tail.there (Tail.there (Tail.here _))))) | apply Tail.cond | (apply Tail.bind; intro _))
noncomputable def w_heldIntS_L1 (r0 : List (Int)) (k1 : Int) (i5 : Int) : Option Int := c_w_heldIntS.L.1 ((r0, ()), ((), k1, i5, ()), ((), (), ()))
theorem w_heldIntS_u1 (r0 : List (Int)) (k1 : Int) (i5 : Int) : w_heldIntS_L1 r0 k1 i5 = w_heldIntS_t1 w_heldIntS_L1 r0 k1 i5 :=
  (congrArg (fun g => g.1 ((r0, ()), ((), k1, i5, ()), ((), (), ()))) (FnCx.L_eq w_heldIntS_ts)).trans (by kernel_rfl)
noncomputable def w_heldIntS (a0 : List Int) (k1 : Int) : Option Int := w_heldIntS_t0 w_heldIntS_L1 a0 k1
theorem w_heldIntS_e (a0 : List Int) (k1 : Int) : c_w_heldIntS.start c_w_heldIntS.L (a0, k1, ()) = w_heldIntS a0 k1 := by kernel_rfl
-- NICE tot
noncomputable def w_heldIntS_n (a : List Int) (k : Int) : Int := heldL a k
theorem w_heldIntS_ok (a : List Int) (k : Int) (hb : BdI c_w_heldIntS.ins (a, k, ())) : w_heldIntS a k = some (w_heldIntS_n a k) :=
  loop_held (L := fun i k => w_heldIntS_L1 a k (i : Int)) (l := a)
    (fun i h k => by
      simp only [w_heldIntS_u1 a k i, w_heldIntS_t1, rdk_get (k := kint) h, wrapS h hb.1.1]
      simp [h]) (fun k => by simp [w_heldIntS_u1 a k a.length, w_heldIntS_t1]) k
noncomputable def F_w_heldIntS : Ins c_w_heldIntS.ins → Int := fun x => w_heldIntS_n x.1 x.2.1
noncomputable def S_w_heldIntS : FSpec := mkT c_w_heldIntS.env.pre c_w_heldIntS.ins c_w_heldIntS.out c_w_heldIntS.inj F_w_heldIntS
theorem h_w_heldIntS : Cert Try.prog 126 S_w_heldIntS := FnCx.certT (c := c_w_heldIntS) F_w_heldIntS (tyOk _ _ _) (spOk trivial) (fun _ _ _ _ _ hs => noDr_ok) Try.func126 rfl rfl Try.ntmps126 (by kernel_rfl) rfl rfl (fun _ => rfl) w_heldIntS_ts w_heldIntS_hs (fun x hb => by
  obtain ⟨a0, k1, _⟩ := x
  exact (w_heldIntS_e a0 k1).trans (w_heldIntS_ok a0 k1 hb))
/-! laws.heldStairs -/
noncomputable def c_w_heldStairs : FnCx := { env := env 18 [(126, S_w_heldIntS)] [], body := bodyOf Try.f164, res := [.tmp 4], ins := [.ro kStairs, .ro kint], out := [(kint, true)], T := Int, fin := fun r => r.1.1, inj := fun t => ((t, ()), ((), (), ())), pts := [], fuel := 400, dr := noDr }
noncomputable def w_heldStairs (a0_Steps : Int) (a0_Strides : List Int) (a0_Broken : List Int) (k1 : Int) : Int :=
  bif decide (w_heldIntS_n a0_Strides k1 < 0) then -1
  else bif decide (w_heldIntS_n a0_Broken (w_heldIntS_n a0_Strides k1) < 0) then -1 else w_heldIntS_n a0_Broken (w_heldIntS_n a0_Strides k1)
theorem w_heldStairs_e (a0_Steps : Int) (a0_Strides : List Int) (a0_Broken : List Int) (k1 : Int) : c_w_heldStairs.start c_w_heldStairs.L ((a0_Steps, a0_Strides, a0_Broken), k1, ()) = some (w_heldStairs a0_Steps a0_Strides a0_Broken k1) := by
  refine Eq.trans (b := (bif decide (w_heldIntS_n a0_Strides k1 < 0) then some (-1) else bif decide (w_heldIntS_n a0_Broken (w_heldIntS_n a0_Strides k1) < 0) then some (-1) else some (w_heldIntS_n a0_Broken (w_heldIntS_n a0_Strides k1)) : Option Int)) (by kernel_rfl) ?_
  unfold w_heldStairs
  repeat (first | rfl | apply condS)
/-- stairs of any sizes, marked: what is held is what was marked -/
theorem heldStairs_eq (a : Int) (b c : List Int) (h : b.length + c.length ≤ 4611686018427387904) :
    decide (markK c (markK b 1) < 0) = false ∧ w_heldStairs a (markL b 1) (markL c (markK b 1)) 1 = markK c (markK b 1) := by
  have e1 : markK b 1 = 1 + b.length := markK_eq b 1 (by omega) (by omega)
  have e2 : markK c (1 + b.length) = 1 + b.length + c.length := markK_eq c _ (by omega) (by omega)
  have h1 : ¬ (1 + (b.length : Int) < 0) := by omega
  have h2 : ¬ (1 + (b.length : Int) + c.length < 0) := by omega
  constructor
  · rw [e1, e2]; simp [h2]
  · unfold w_heldStairs w_heldIntS_n
    rw [held_mark, held_mark, e1, e2]
    simp [h1, h2]
noncomputable def F_w_heldStairs : Ins c_w_heldStairs.ins → Int := fun x => w_heldStairs x.1.1 x.1.2.1 x.1.2.2 x.2.1
noncomputable def S_w_heldStairs : FSpec := mkT c_w_heldStairs.env.pre c_w_heldStairs.ins c_w_heldStairs.out c_w_heldStairs.inj F_w_heldStairs
theorem h_w_heldStairs : Cert Try.prog 164 S_w_heldStairs := FnCx.certT (c := c_w_heldStairs) F_w_heldStairs (tyOk _ _ _) (spOk ⟨h_w_heldIntS, fun _ _ _ => trivial, trivial⟩) (fun _ _ _ _ _ hs => noDr_ok) Try.func164 rfl rfl Try.ntmps164 (by kernel_rfl) rfl rfl (fun _ => rfl) trivial (fun x => .inl ⟨c_w_heldStairs.start () x, fun _ => rfl⟩) (fun x hb => by
  obtain ⟨⟨a0_Steps, a0_Strides, a0_Broken⟩, k1, _⟩ := x
  exact w_heldStairs_e a0_Steps a0_Strides a0_Broken k1)
/-! laws.FnExactBreakStep -/
noncomputable def c_w_FnExactBreakStep : FnCx := { env := env 101 [(158, S_w_szStairs), (160, S_w_toStairs), (159, S_s_BreakStep), (161, S_i_BreakStep), (162, S_w_eqStairs), (163, S_w_markStairs), (164, S_w_heldStairs)] [], body := bodyOf Try.f14, res := [.tmp 4], ins := [.ro kwStairs, .ro kint], out := [(kbool, true)], T := Bool, fin := fun r => r.1.1, inj := fun t => ((t, ()), ((), (), ())), pts := [], fuel := 400, dr := evDr (env 101 [(158, S_w_szStairs), (160, S_w_toStairs), (159, S_s_BreakStep), (161, S_i_BreakStep), (162, S_w_eqStairs), (163, S_w_markStairs), (164, S_w_heldStairs)] []) }
noncomputable def w_FnExactBreakStep (aS0_Steps : Int) (aS0_Strides : List Int) (aS0_Broken : List Int) (aStep1 : Int) : Option Bool :=
  bif decide (w_szStairs aS0_Steps aS0_Strides aS0_Broken 1048576 < 0) then some true
  else
    Option.bind (w_toStairs aS0_Steps aS0_Strides aS0_Broken) fun r =>
      Option.bind (s_BreakStep (Prod.fst r) (Prod.fst (Prod.snd r)) (Prod.snd (Prod.snd r)) aStep1) fun r =>
        Option.bind (w_toStairs aS0_Steps aS0_Strides aS0_Broken) fun r_1 =>
          Option.bind (i_BreakStep (Prod.fst r_1) (Prod.fst (Prod.snd r_1)) (Prod.snd (Prod.snd r_1)) aStep1) fun r_2 =>
            bif
                !w_eqStairs (Prod.fst (Prod.fst r_2)) (Prod.fst (Prod.snd (Prod.fst r_2))) (Prod.snd (Prod.snd (Prod.fst r_2))) (Prod.fst (Prod.fst r))
                    (Prod.fst (Prod.snd (Prod.fst r))) (Prod.snd (Prod.snd (Prod.fst r))) then
              some false
            else
              bif !Prod.snd r_2 == Prod.snd r then some false
              else
                Option.bind (w_toStairs aS0_Steps aS0_Strides aS0_Broken) fun r_3 =>
                  bif
                      !w_eqStairs (Prod.fst r_1) (Prod.fst (Prod.snd r_1)) (Prod.snd (Prod.snd r_1)) (Prod.fst r_3) (Prod.fst (Prod.snd r_3))
                          (Prod.snd (Prod.snd r_3)) then
                    some false
                  else
                    bif decide (markK (Prod.snd (Prod.snd r_1)) (markK (Prod.fst (Prod.snd r_1)) 1) < 0) then some false
                    else
                      bif
                          !w_eqStairs (Prod.fst (Prod.fst r_2)) (Prod.fst (Prod.snd (Prod.fst r_2))) (Prod.snd (Prod.snd (Prod.fst r_2))) (Prod.fst (Prod.fst r))
                              (Prod.fst (Prod.snd (Prod.fst r))) (Prod.snd (Prod.snd (Prod.fst r))) then
                        some false
                      else
                        bif !Prod.snd r_2 == Prod.snd r then some false
                        else
                          bif
                              decide
                                (w_heldStairs (Prod.fst (Prod.fst r_2)) (markL (Prod.fst (Prod.snd (Prod.fst r_2))) 1)
                                    (markL (Prod.snd (Prod.snd (Prod.fst r_2))) (markK (Prod.fst (Prod.snd (Prod.fst r_2))) 1)) 1 <
                                  0) then
                            some false
                          else
                            bif
                                w_heldStairs (Prod.fst (Prod.fst r_2)) (markL (Prod.fst (Prod.snd (Prod.fst r_2))) 1)
                                    (markL (Prod.snd (Prod.snd (Prod.fst r_2))) (markK (Prod.fst (Prod.snd (Prod.fst r_2))) 1)) 1 !=
                                  markK (Prod.snd (Prod.snd (Prod.fst r_2))) (markK (Prod.fst (Prod.snd (Prod.fst r_2))) 1) then
                              some false
                            else
                              Option.bind (w_toStairs aS0_Steps aS0_Strides aS0_Broken) fun r_4 =>
                                Option.bind (i_BreakStep (Prod.fst r_4) (Prod.fst (Prod.snd r_4)) (Prod.snd (Prod.snd r_4)) aStep1) fun r_5 =>
                                  bif
                                      !w_eqStairs (Prod.fst (Prod.fst r_5)) (Prod.fst (Prod.snd (Prod.fst r_5))) (Prod.snd (Prod.snd (Prod.fst r_5)))
                                          (Prod.fst (Prod.fst r)) (Prod.fst (Prod.snd (Prod.fst r))) (Prod.snd (Prod.snd (Prod.fst r))) then
                                    some false
                                  else
                                    bif !Prod.snd r_5 == Prod.snd r then some false
                                    else
                                      bif
                                          decide
                                            (w_heldStairs (Prod.fst (Prod.fst r_2)) (markL (Prod.fst (Prod.snd (Prod.fst r_2))) 1)
                                                (markL (Prod.snd (Prod.snd (Prod.fst r_2))) (markK (Prod.fst (Prod.snd (Prod.fst r_2))) 1)) 1 <
                                              0) then
                                        some false
                                      else
                                        bif
                                            w_heldStairs (Prod.fst (Prod.fst r_2)) (markL (Prod.fst (Prod.snd (Prod.fst r_2))) 1)
                                                (markL (Prod.snd (Prod.snd (Prod.fst r_2))) (markK (Prod.fst (Prod.snd (Prod.fst r_2))) 1)) 1 !=
                                              markK (Prod.snd (Prod.snd (Prod.fst r_2))) (markK (Prod.fst (Prod.snd (Prod.fst r_2))) 1) then
                                          some false
                                        else some true
theorem w_FnExactBreakStep_e (aS0_Steps : Int) (aS0_Strides : List Int) (aS0_Broken : List Int) (aStep1 : Int) : c_w_FnExactBreakStep.start c_w_FnExactBreakStep.L ((aS0_Steps, aS0_Strides, aS0_Broken), aStep1, ()) = w_FnExactBreakStep aS0_Steps aS0_Strides aS0_Broken aStep1 := by kernel_rfl
noncomputable def F_w_FnExactBreakStep : Ins c_w_FnExactBreakStep.ins → Option Bool := fun x => w_FnExactBreakStep x.1.1 x.1.2.1 x.1.2.2 x.2.1
noncomputable def S_w_FnExactBreakStep : FSpec := mkF c_w_FnExactBreakStep.env.pre c_w_FnExactBreakStep.ins c_w_FnExactBreakStep.out c_w_FnExactBreakStep.inj F_w_FnExactBreakStep
theorem h_w_FnExactBreakStep : Cert Try.prog 14 S_w_FnExactBreakStep := FnCx.certF (c := c_w_FnExactBreakStep) F_w_FnExactBreakStep (tyOk _ _ _) (spOk ⟨h_w_szStairs, fun _ _ _ => trivial, ⟨h_w_toStairs, fun _ _ _ => trivial, ⟨h_s_BreakStep, fun _ _ _ => trivial, ⟨h_i_BreakStep, fun _ _ _ => trivial, ⟨h_w_eqStairs, fun _ _ _ => trivial, ⟨h_w_markStairs, fun _ _ _ => trivial, ⟨h_w_heldStairs, fun _ _ _ => trivial, trivial⟩⟩⟩⟩⟩⟩⟩) (fun _ _ _ _ _ hs => evDr_ok (tyOk _ _ _) hs follows) Try.func14 rfl rfl Try.ntmps14 (by kernel_rfl) rfl rfl (fun _ => rfl) trivial (fun x => .inl ⟨c_w_FnExactBreakStep.start () x, fun _ => rfl⟩) (fun x t hb ht => by
  obtain ⟨⟨aS0_Steps, aS0_Strides, aS0_Broken⟩, aStep1, _⟩ := x
  exact (w_FnExactBreakStep_e aS0_Steps aS0_Strides aS0_Broken aStep1).trans ht)
end Go.Proofs.Ythenlapjhlljnaa.V
