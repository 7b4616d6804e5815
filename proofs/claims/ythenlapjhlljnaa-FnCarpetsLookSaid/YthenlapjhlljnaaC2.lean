/- Functions of the program, as plain functions. No condition. -/
import Derived.Test.YthenlapjhlljnaaC1
set_option linter.unusedVariables false
set_option linter.unusedSimpArgs false
set_option maxRecDepth 100000
namespace Go.Proofs.Ythenlapjhlljnaa.V
open Go Go.Ev Go.Proofs
/-! impl.isCover -/
noncomputable def c_i_isCover : FnCx := { env := env 5 [(175, S_i_within)] [], body := bodyOf Try.f165, res := [.tmp 2], ins := [.ro kint], out := [(kbool, true)], T := Bool, fin := fun r => r.1.1, inj := fun t => ((t, ()), ((), ())), pts := [], fuel := 400, dr := noDr }
noncomputable def i_isCover (n0 : Int) : Bool :=
  i_within n0 1 100
theorem i_isCover_e (n0 : Int) : c_i_isCover.start c_i_isCover.L (n0, ()) = some (i_isCover n0) := by kernel_rfl
noncomputable def F_i_isCover : Ins c_i_isCover.ins → Bool := fun x => i_isCover x.1
noncomputable def S_i_isCover : FSpec := mkT c_i_isCover.env.pre c_i_isCover.ins c_i_isCover.out c_i_isCover.inj F_i_isCover
theorem h_i_isCover : Cert Try.prog 165 S_i_isCover := FnCx.certT (c := c_i_isCover) F_i_isCover (tyOk _ _ _) (spOk ⟨h_i_within, fun _ _ _ => trivial, trivial⟩) (fun _ _ _ _ _ hs => noDr_ok) Try.func165 rfl rfl Try.ntmps165 (by kernel_rfl) rfl rfl (fun _ => rfl) trivial (fun x => .inl ⟨c_i_isCover.start () x, fun _ => rfl⟩) (fun x hb => by
  obtain ⟨n0, _⟩ := x
  exact i_isCover_e n0)
/-! impl.isNeed -/
noncomputable def c_i_isNeed : FnCx := { env := env 5 [(175, S_i_within)] [], body := bodyOf Try.f166, res := [.tmp 2], ins := [.ro kint], out := [(kbool, true)], T := Bool, fin := fun r => r.1.1, inj := fun t => ((t, ()), ((), ())), pts := [], fuel := 400, dr := noDr }
noncomputable def i_isNeed (n0 : Int) : Bool :=
  i_within n0 1 100
theorem i_isNeed_e (n0 : Int) : c_i_isNeed.start c_i_isNeed.L (n0, ()) = some (i_isNeed n0) := by kernel_rfl
noncomputable def F_i_isNeed : Ins c_i_isNeed.ins → Bool := fun x => i_isNeed x.1
noncomputable def S_i_isNeed : FSpec := mkT c_i_isNeed.env.pre c_i_isNeed.ins c_i_isNeed.out c_i_isNeed.inj F_i_isNeed
theorem h_i_isNeed : Cert Try.prog 166 S_i_isNeed := FnCx.certT (c := c_i_isNeed) F_i_isNeed (tyOk _ _ _) (spOk ⟨h_i_within, fun _ _ _ => trivial, trivial⟩) (fun _ _ _ _ _ hs => noDr_ok) Try.func166 rfl rfl Try.ntmps166 (by kernel_rfl) rfl rfl (fun _ => rfl) trivial (fun x => .inl ⟨c_i_isNeed.start () x, fun _ => rfl⟩) (fun x hb => by
  obtain ⟨n0, _⟩ := x
  exact i_isNeed_e n0)
/-! impl.isRoll -/
noncomputable def c_i_isRoll : FnCx := { env := env 5 [(175, S_i_within)] [], body := bodyOf Try.f167, res := [.tmp 2], ins := [.ro kint], out := [(kbool, true)], T := Bool, fin := fun r => r.1.1, inj := fun t => ((t, ()), ((), ())), pts := [], fuel := 400, dr := noDr }
noncomputable def i_isRoll (n0 : Int) : Bool :=
  i_within n0 1 2000
theorem i_isRoll_e (n0 : Int) : c_i_isRoll.start c_i_isRoll.L (n0, ()) = some (i_isRoll n0) := by kernel_rfl
noncomputable def F_i_isRoll : Ins c_i_isRoll.ins → Bool := fun x => i_isRoll x.1
noncomputable def S_i_isRoll : FSpec := mkT c_i_isRoll.env.pre c_i_isRoll.ins c_i_isRoll.out c_i_isRoll.inj F_i_isRoll
theorem h_i_isRoll : Cert Try.prog 167 S_i_isRoll := FnCx.certT (c := c_i_isRoll) F_i_isRoll (tyOk _ _ _) (spOk ⟨h_i_within, fun _ _ _ => trivial, trivial⟩) (fun _ _ _ _ _ hs => noDr_ok) Try.func167 rfl rfl Try.ntmps167 (by kernel_rfl) rfl rfl (fun _ => rfl) trivial (fun x => .inl ⟨c_i_isRoll.start () x, fun _ => rfl⟩) (fun x hb => by
  obtain ⟨n0, _⟩ := x
  exact i_isRoll_e n0)
/-! impl.PatternStarts -/
noncomputable def c_i_PatternStarts : FnCx := { env := env 38 [(165, S_i_isCover), (166, S_i_isNeed), (167, S_i_isRoll)] [], body := bodyOf Try.f15, res := [.tmp 6, .tmp 7], ins := [.ro kint, .ro kint, .ro kint], out := [(kSint, true), (kbool, true)], T := List Int × Bool, fin := fun r => (r.1.1, r.1.2.1), inj := fun t => ((t.1, t.2, ()), ((), (), (), ())), pts := [([.inLoop [1, 1, 1, 0, 1, 0, 0], .inBlock 0, .code [1, 1, 1, 1]], Shape.mk [Bs.row kint 3 true] [(1, Ss.one (Cs.sc kint)), (2, Ss.one (Cs.sc kint)), (8, Ss.one (Cs.sl 0)), (24, Ss.one (Cs.sc kint)), (25, Ss.one (Cs.sc kint))] [Ss.one (Cs.any), Ss.one (Cs.any), Ss.one (Cs.any)])], fuel := 400, dr := noDr }
noncomputable def i_PatternStarts_t1 (g1 : List (Int) → Int → Int → Int → Int → Option (List Int × Bool)) (r0 : List (Int)) (need1 : Int) (pattern2 : Int) (s24 : Int) (s25 : Int) : Option (List Int × Bool) :=
  bif decide (s25 < s24) then
    bif pattern2 == 0 then none
    else
      bif Nat.ble (List.length r0 + 1) 4294967296 then
        g1 (r0 ++ [Int.tmod (IntKind.wrap IntKind.i64 (s25 * need1)) pattern2]) need1 pattern2 s24 (IntKind.wrap IntKind.i64 (s25 + 1))
      else none
  else some (r0, true)
noncomputable def i_PatternStarts_t0 (g1 : List (Int) → Int → Int → Int → Int → Option (List Int × Bool)) (steps0 : Int) (need1 : Int) (pattern2 : Int) : Option (List Int × Bool) :=
  bif !i_isCover steps0 then some ([], false)
  else bif !i_isNeed need1 then some ([], false) else bif !i_isRoll pattern2 then some ([], false) else g1 [] need1 pattern2 steps0 0
theorem i_PatternStarts_ts : Tails c_i_PatternStarts.pts c_i_PatternStarts.round :=
  ⟨fun s => by
    obtain ⟨⟨r0, _⟩, ⟨need1, pattern2, _, s24, s25, _⟩, ⟨_, _, _, _⟩⟩ := s
    refine Tail.eq (Y := fun g => i_PatternStarts_t1 (fun r0 need1 pattern2 s24 s25 => g.1 ((r0, ()), (need1, pattern2, (), s24, s25, ()), ((), (), (), ()))) r0 need1 pattern2 s24 s25) ?_ (fun g => by kernel_rfl)
    simp only [i_PatternStarts_t1]; repeat (first | exact Tail.const _ | exact Tail.here _ | exact Tail.there (Tail.here _) | exact Tail.there (Tail.there (Tail.here _)) | exact Tail.there (Tail.there (Tail.there (Tail.here _))) | exact Tail.there (Tail.there (Tail.there (Tail.there (Tail.here _)))) | exact Tail.there (Tail.there (Tail.there (Tail.there (Tail.there (Tail.here _))))) | apply Tail.cond | (apply Tail.bind; intro _)), trivial⟩
theorem i_PatternStarts_hs : ∀ x, Tail c_i_PatternStarts.pts (fun g => c_i_PatternStarts.start g x) := fun x => by
    obtain ⟨steps0, need1, pattern2, _⟩ := x
    refine Tail.eq (Y := fun g => i_PatternStarts_t0 (fun r0 need1 pattern2 s24 s25 => g.1 ((r0, ()), (need1, pattern2, (), s24, s25, ()), ((), (), (), ()))) steps0 need1 pattern2) ?_ (fun g => by kernel_rfl)
    simp only [i_PatternStarts_t0]; repeat (first | exact Tail.const _ | exact Tail.here _ | exact Tail.there (Tail.here _) | exact Tail.there (Tail.there (Tail.here _)) | exact Tail.there (Tail.there (Tail.there (Tail.here _))) | exact Tail.there (Tail.there (Tail.there (Tail.there (Tail.here _)))) | exact Tail.there (Tail.there (Tail.there (Tail.there (Tail.there (Tail.here _))))) | apply Tail.cond | (apply Tail.bind; intro _))
noncomputable def i_PatternStarts_L1 (r0 : List (Int)) (need1 : Int) (pattern2 : Int) (s24 : Int) (s25 : Int) : Option (List Int × Bool) := c_i_PatternStarts.L.1 ((r0, ()), (need1, pattern2, (), s24, s25, ()), ((), (), (), ()))
theorem i_PatternStarts_u1 (r0 : List (Int)) (need1 : Int) (pattern2 : Int) (s24 : Int) (s25 : Int) : i_PatternStarts_L1 r0 need1 pattern2 s24 s25 = i_PatternStarts_t1 i_PatternStarts_L1 r0 need1 pattern2 s24 s25 :=
  (congrArg (fun g => g.1 ((r0, ()), (need1, pattern2, (), s24, s25, ()), ((), (), (), ()))) (FnCx.L_eq i_PatternStarts_ts)).trans (by kernel_rfl)
noncomputable def i_PatternStarts (steps0 : Int) (need1 : Int) (pattern2 : Int) : Option (List Int × Bool) := i_PatternStarts_t0 i_PatternStarts_L1 steps0 need1 pattern2
theorem i_PatternStarts_e (steps0 : Int) (need1 : Int) (pattern2 : Int) : c_i_PatternStarts.start c_i_PatternStarts.L (steps0, need1, pattern2, ()) = i_PatternStarts steps0 need1 pattern2 := by kernel_rfl
noncomputable def F_i_PatternStarts : Ins c_i_PatternStarts.ins → Option (List Int × Bool) := fun x => i_PatternStarts x.1 x.2.1 x.2.2.1
noncomputable def S_i_PatternStarts : FSpec := mkF c_i_PatternStarts.env.pre c_i_PatternStarts.ins c_i_PatternStarts.out c_i_PatternStarts.inj F_i_PatternStarts
theorem h_i_PatternStarts : Cert Try.prog 15 S_i_PatternStarts := FnCx.certF (c := c_i_PatternStarts) F_i_PatternStarts (tyOk _ _ _) (spOk ⟨h_i_isCover, fun _ _ _ => trivial, ⟨h_i_isNeed, fun _ _ _ => trivial, ⟨h_i_isRoll, fun _ _ _ => trivial, trivial⟩⟩⟩) (fun _ _ _ _ _ hs => noDr_ok) Try.func15 rfl rfl Try.ntmps15 (by kernel_rfl) rfl rfl (fun _ => rfl) i_PatternStarts_ts i_PatternStarts_hs (fun x t hb ht => by
  obtain ⟨steps0, need1, pattern2, _⟩ := x
  exact (i_PatternStarts_e steps0 need1 pattern2).trans ht)
/-! spec.cpNeed -/
noncomputable def c_s_cpNeed : FnCx := { env := env 5 [(176, S_s_l1In)] [], body := bodyOf Try.f265, res := [.tmp 2], ins := [.ro kint], out := [(kbool, true)], T := Bool, fin := fun r => r.1.1, inj := fun t => ((t, ()), ((), ())), pts := [], fuel := 400, dr := noDr }
noncomputable def s_cpNeed (need0 : Int) : Bool :=
  s_l1In need0 1 100
theorem s_cpNeed_e (need0 : Int) : c_s_cpNeed.start c_s_cpNeed.L (need0, ()) = some (s_cpNeed need0) := by kernel_rfl
noncomputable def F_s_cpNeed : Ins c_s_cpNeed.ins → Bool := fun x => s_cpNeed x.1
noncomputable def S_s_cpNeed : FSpec := mkT c_s_cpNeed.env.pre c_s_cpNeed.ins c_s_cpNeed.out c_s_cpNeed.inj F_s_cpNeed
theorem h_s_cpNeed : Cert Try.prog 265 S_s_cpNeed := FnCx.certT (c := c_s_cpNeed) F_s_cpNeed (tyOk _ _ _) (spOk ⟨h_s_l1In, fun _ _ _ => trivial, trivial⟩) (fun _ _ _ _ _ hs => noDr_ok) Try.func265 rfl rfl Try.ntmps265 (by kernel_rfl) rfl rfl (fun _ => rfl) trivial (fun x => .inl ⟨c_s_cpNeed.start () x, fun _ => rfl⟩) (fun x hb => by
  obtain ⟨need0, _⟩ := x
  exact s_cpNeed_e need0)
/-! spec.cpSteps -/
noncomputable def c_s_cpSteps : FnCx := { env := env 11 [(176, S_s_l1In), (265, S_s_cpNeed)] [], body := bodyOf Try.f168, res := [.tmp 4], ins := [.ro kint, .ro kint], out := [(kbool, true)], T := Bool, fin := fun r => r.1.1, inj := fun t => ((t, ()), ((), (), ())), pts := [], fuel := 400, dr := noDr }
noncomputable def s_cpSteps (steps0 : Int) (need1 : Int) : Bool :=
  bif s_l1In steps0 1 100 then s_cpNeed need1 else false
theorem s_cpSteps_e (steps0 : Int) (need1 : Int) : c_s_cpSteps.start c_s_cpSteps.L (steps0, need1, ()) = some (s_cpSteps steps0 need1) := by
  refine Eq.trans (b := (bif s_l1In steps0 1 100 then some (s_cpNeed need1) else some false : Option Bool)) (by kernel_rfl) ?_
  unfold s_cpSteps
  repeat (first | rfl | apply condS)
noncomputable def F_s_cpSteps : Ins c_s_cpSteps.ins → Bool := fun x => s_cpSteps x.1 x.2.1
noncomputable def S_s_cpSteps : FSpec := mkT c_s_cpSteps.env.pre c_s_cpSteps.ins c_s_cpSteps.out c_s_cpSteps.inj F_s_cpSteps
theorem h_s_cpSteps : Cert Try.prog 168 S_s_cpSteps := FnCx.certT (c := c_s_cpSteps) F_s_cpSteps (tyOk _ _ _) (spOk ⟨h_s_l1In, fun _ _ _ => trivial, ⟨h_s_cpNeed, fun _ _ _ => trivial, trivial⟩⟩) (fun _ _ _ _ _ hs => noDr_ok) Try.func168 rfl rfl Try.ntmps168 (by kernel_rfl) rfl rfl (fun _ => rfl) trivial (fun x => .inl ⟨c_s_cpSteps.start () x, fun _ => rfl⟩) (fun x hb => by
  obtain ⟨steps0, need1, _⟩ := x
  exact s_cpSteps_e steps0 need1)
/-! spec.cpPattern -/
noncomputable def c_s_cpPattern : FnCx := { env := env 11 [(265, S_s_cpNeed), (176, S_s_l1In)] [], body := bodyOf Try.f169, res := [.tmp 4], ins := [.ro kint, .ro kint], out := [(kbool, true)], T := Bool, fin := fun r => r.1.1, inj := fun t => ((t, ()), ((), (), ())), pts := [], fuel := 400, dr := noDr }
noncomputable def s_cpPattern (need0 : Int) (pattern1 : Int) : Bool :=
  bif s_cpNeed need0 then s_l1In pattern1 1 2000 else false
theorem s_cpPattern_e (need0 : Int) (pattern1 : Int) : c_s_cpPattern.start c_s_cpPattern.L (need0, pattern1, ()) = some (s_cpPattern need0 pattern1) := by
  refine Eq.trans (b := (bif s_cpNeed need0 then some (s_l1In pattern1 1 2000) else some false : Option Bool)) (by kernel_rfl) ?_
  unfold s_cpPattern
  repeat (first | rfl | apply condS)
noncomputable def F_s_cpPattern : Ins c_s_cpPattern.ins → Bool := fun x => s_cpPattern x.1 x.2.1
noncomputable def S_s_cpPattern : FSpec := mkT c_s_cpPattern.env.pre c_s_cpPattern.ins c_s_cpPattern.out c_s_cpPattern.inj F_s_cpPattern
theorem h_s_cpPattern : Cert Try.prog 169 S_s_cpPattern := FnCx.certT (c := c_s_cpPattern) F_s_cpPattern (tyOk _ _ _) (spOk ⟨h_s_cpNeed, fun _ _ _ => trivial, ⟨h_s_l1In, fun _ _ _ => trivial, trivial⟩⟩) (fun _ _ _ _ _ hs => noDr_ok) Try.func169 rfl rfl Try.ntmps169 (by kernel_rfl) rfl rfl (fun _ => rfl) trivial (fun x => .inl ⟨c_s_cpPattern.start () x, fun _ => rfl⟩) (fun x hb => by
  obtain ⟨need0, pattern1, _⟩ := x
  exact s_cpPattern_e need0 pattern1)
/-! spec.PatternStarts -/
noncomputable def c_s_PatternStarts : FnCx := { env := env 34 [(168, S_s_cpSteps), (169, S_s_cpPattern)] [], body := bodyOf Try.f16, res := [.tmp 6, .tmp 7], ins := [.ro kint, .ro kint, .ro kint], out := [(kSint, true), (kbool, true)], T := List Int × Bool, fin := fun r => (r.1.1, r.1.2.1), inj := fun t => ((t.1, t.2, ()), ((), (), (), ())), pts := [([.inLoop [1, 1, 1, 0, 1, 0, 0], .inBlock 0, .code [1, 1, 1, 1]], Shape.mk [Bs.row kint 3 true] [(0, Ss.one (Cs.sc kint)), (1, Ss.one (Cs.sc kint)), (2, Ss.one (Cs.sc kint)), (8, Ss.one (Cs.sl 0)), (9, Ss.one (Cs.sc kint))] [Ss.one (Cs.any), Ss.one (Cs.any), Ss.one (Cs.any)])], fuel := 400, dr := noDr }
noncomputable def s_PatternStarts_t1 (g1 : List (Int) → Int → Int → Int → Int → Option (List Int × Bool)) (r0 : List (Int)) (steps0 : Int) (need1 : Int) (pattern2 : Int) (k9 : Int) : Option (List Int × Bool) :=
  bif decide (k9 < steps0) then
    bif pattern2 == 0 then none
    else
      bif Nat.ble (List.length r0 + 1) 4294967296 then
        g1 (r0 ++ [Int.tmod (IntKind.wrap IntKind.i64 (k9 * need1)) pattern2]) steps0 need1 pattern2 (IntKind.wrap IntKind.i64 (k9 + 1))
      else none
  else some (r0, true)
noncomputable def s_PatternStarts_t0 (g1 : List (Int) → Int → Int → Int → Int → Option (List Int × Bool)) (steps0 : Int) (need1 : Int) (pattern2 : Int) : Option (List Int × Bool) :=
  bif !s_cpSteps steps0 need1 then some ([], false) else bif !s_cpPattern need1 pattern2 then some ([], false) else g1 [] steps0 need1 pattern2 0
theorem s_PatternStarts_ts : Tails c_s_PatternStarts.pts c_s_PatternStarts.round :=
  ⟨fun s => by
    obtain ⟨⟨r0, _⟩, ⟨steps0, need1, pattern2, _, k9, _⟩, ⟨_, _, _, _⟩⟩ := s
    refine Tail.eq (Y := fun g => s_PatternStarts_t1 (fun r0 steps0 need1 pattern2 k9 => g.1 ((r0, ()), (steps0, need1, pattern2, (), k9, ()), ((), (), (), ()))) r0 steps0 need1 pattern2 k9) ?_ (fun g => by kernel_rfl)
    simp only [s_PatternStarts_t1]; repeat (first | exact Tail.const _ | exact Tail.here _ | exact Tail.there (Tail.here _) | exact Tail.there (Tail.there (Tail.here _)) | exact Tail.there (Tail.there (Tail.there (Tail.here _))) | exact Tail.there (Tail.there (Tail.there (Tail.there (Tail.here _)))) | exact Tail.there (Tail.there (Tail.there (Tail.there (Tail.there (Tail.here _))))) | apply Tail.cond | (apply Tail.bind; intro _)), trivial⟩
theorem s_PatternStarts_hs : ∀ x, Tail c_s_PatternStarts.pts (fun g => c_s_PatternStarts.start g x) := fun x => by
    obtain ⟨steps0, need1, pattern2, _⟩ := x
    refine Tail.eq (Y := fun g => s_PatternStarts_t0 (fun r0 steps0 need1 pattern2 k9 => g.1 ((r0, ()), (steps0, need1, pattern2, (), k9, ()), ((), (), (), ()))) steps0 need1 pattern2) ?_ (fun g => by kernel_rfl)
    simp only [s_PatternStarts_t0]; repeat (first | exact Tail.const _ | exact Tail.here _ | exact Tail.there (Tail.here _) | exact Tail.there (Tail.there (Tail.here _)) | exact Tail.there (Tail.there (Tail.there (Tail.here _))) | exact Tail.there (Tail.there (Tail.there (Tail.there (Tail.here _)))) | exact Tail.there (Tail.there (Tail.there (Tail.there (Tail.there (Tail.here _))))) | apply Tail.cond | (apply Tail.bind; intro _))
noncomputable def s_PatternStarts_L1 (r0 : List (Int)) (steps0 : Int) (need1 : Int) (pattern2 : Int) (k9 : Int) : Option (List Int × Bool) := c_s_PatternStarts.L.1 ((r0, ()), (steps0, need1, pattern2, (), k9, ()), ((), (), (), ()))
theorem s_PatternStarts_u1 (r0 : List (Int)) (steps0 : Int) (need1 : Int) (pattern2 : Int) (k9 : Int) : s_PatternStarts_L1 r0 steps0 need1 pattern2 k9 = s_PatternStarts_t1 s_PatternStarts_L1 r0 steps0 need1 pattern2 k9 :=
  (congrArg (fun g => g.1 ((r0, ()), (steps0, need1, pattern2, (), k9, ()), ((), (), (), ()))) (FnCx.L_eq s_PatternStarts_ts)).trans (by kernel_rfl)
noncomputable def s_PatternStarts (steps0 : Int) (need1 : Int) (pattern2 : Int) : Option (List Int × Bool) := s_PatternStarts_t0 s_PatternStarts_L1 steps0 need1 pattern2
theorem s_PatternStarts_e (steps0 : Int) (need1 : Int) (pattern2 : Int) : c_s_PatternStarts.start c_s_PatternStarts.L (steps0, need1, pattern2, ()) = s_PatternStarts steps0 need1 pattern2 := by kernel_rfl
noncomputable def F_s_PatternStarts : Ins c_s_PatternStarts.ins → Option (List Int × Bool) := fun x => s_PatternStarts x.1 x.2.1 x.2.2.1
noncomputable def S_s_PatternStarts : FSpec := mkF c_s_PatternStarts.env.pre c_s_PatternStarts.ins c_s_PatternStarts.out c_s_PatternStarts.inj F_s_PatternStarts
theorem h_s_PatternStarts : Cert Try.prog 16 S_s_PatternStarts := FnCx.certF (c := c_s_PatternStarts) F_s_PatternStarts (tyOk _ _ _) (spOk ⟨h_s_cpSteps, fun _ _ _ => trivial, ⟨h_s_cpPattern, fun _ _ _ => trivial, trivial⟩⟩) (fun _ _ _ _ _ hs => noDr_ok) Try.func16 rfl rfl Try.ntmps16 (by kernel_rfl) rfl rfl (fun _ => rfl) s_PatternStarts_ts s_PatternStarts_hs (fun x t hb ht => by
  obtain ⟨steps0, need1, pattern2, _⟩ := x
  exact (s_PatternStarts_e steps0 need1 pattern2).trans ht)
/-! impl.WholeStarts -/
noncomputable def c_i_WholeStarts : FnCx := { env := env 39 [(15, S_i_PatternStarts)] [], body := bodyOf Try.f17, res := [.tmp 6, .tmp 7], ins := [.ro kint, .ro kint, .ro kint], out := [(kSint, true), (kbool, true)], T := List Int × Bool, fin := fun r => (r.1.1, r.1.2.1), inj := fun t => ((t.1, t.2, ()), ((), (), (), ())), pts := [([.inLoop [1, 1, 1, 1, 0, 1, 0, 0], .inBlock 0, .code [1, 1, 1, 1, 1]], Shape.mk [Bs.row kint 3 true, Bs.row kint 3 true] [(10, Ss.one (Cs.sl 0)), (23, Ss.one (Cs.sl 1)), (24, Ss.one (Cs.sc kint)), (25, Ss.one (Cs.sc kint))] [Ss.one (Cs.any), Ss.one (Cs.any), Ss.one (Cs.any)])], fuel := 400, dr := noDr }
noncomputable def i_WholeStarts_t1 (g1 : List (Int) → List (Int) → Int → Int → Option (List Int × Bool)) (r0 : List (Int)) (r1 : List (Int)) (s24 : Int) (s25 : Int) : Option (List Int × Bool) :=
  bif decide (s25 < s24) then
    bif decide (0 ≤ s25) then
      bif decide (s25 < (↑(List.length r1) : Int)) then
        bif rdk kint r1 s25 == 0 then
          bif Nat.ble (List.length r0 + 1) 4294967296 then g1 (r0 ++ [IntKind.wrap IntKind.i64 (s25 + 1)]) r1 s24 (IntKind.wrap IntKind.i64 (s25 + 1)) else none
        else g1 r0 r1 s24 (IntKind.wrap IntKind.i64 (s25 + 1))
      else none
    else none
  else some (r0, true)
noncomputable def i_WholeStarts_t0 (g1 : List (Int) → List (Int) → Int → Int → Option (List Int × Bool)) (steps0 : Int) (need1 : Int) (pattern2 : Int) : Option (List Int × Bool) :=
  Option.bind (i_PatternStarts steps0 need1 pattern2) fun r => bif !Prod.snd r then some ([], false) else g1 [] (Prod.fst r) (↑(List.length (Prod.fst r)) : Int) 0
theorem i_WholeStarts_ts : Tails c_i_WholeStarts.pts c_i_WholeStarts.round :=
  ⟨fun s => by
    obtain ⟨⟨r0, r1, _⟩, ⟨_, _, s24, s25, _⟩, ⟨_, _, _, _⟩⟩ := s
    refine Tail.eq (Y := fun g => i_WholeStarts_t1 (fun r0 r1 s24 s25 => g.1 ((r0, r1, ()), ((), (), s24, s25, ()), ((), (), (), ()))) r0 r1 s24 s25) ?_ (fun g => by kernel_rfl)
    simp only [i_WholeStarts_t1]; repeat (first | exact Tail.const _ | exact Tail.here _ | exact Tail.there (Tail.here _) | exact Tail.there (Tail.there (Tail.here _)) | exact Tail.there (Tail.there (Tail.there (Tail.here _))) | exact Tail.there (Tail.there (Tail.there (Tail.there (Tail.here _)))) | exact Tail.there (Tail.there (Tail.there (Tail.there (Tail.there (Tail.here _))))) | apply Tail.cond | (apply Tail.bind; intro _)), trivial⟩
theorem i_WholeStarts_hs : ∀ x, Tail c_i_WholeStarts.pts (fun g => c_i_WholeStarts.start g x) := fun x => by
    obtain ⟨steps0, need1, pattern2, _⟩ := x
    refine Tail.eq (Y := fun g => i_WholeStarts_t0 (fun r0 r1 s24 s25 => g.1 ((r0, r1, ()), ((), (), s24, s25, ()), ((), (), (), ()))) steps0 need1 pattern2) ?_ (fun g => by kernel_rfl)
    simp only [i_WholeStarts_t0]; repeat (first | exact Tail.const _ | exact Tail.here _ | exact Tail.there (Tail.here _) | exact Tail.there (Tail.there (Tail.here _)) | exact Tail.there (Tail.there (Tail.there (Tail.here _))) | exact Tail.there (Tail.there (Tail.there (Tail.there (Tail.here _)))) | exact Tail.there (Tail.there (Tail.there (Tail.there (Tail.there (Tail.here _))))) | apply Tail.cond | (apply Tail.bind; intro _))
noncomputable def i_WholeStarts_L1 (r0 : List (Int)) (r1 : List (Int)) (s24 : Int) (s25 : Int) : Option (List Int × Bool) := c_i_WholeStarts.L.1 ((r0, r1, ()), ((), (), s24, s25, ()), ((), (), (), ()))
theorem i_WholeStarts_u1 (r0 : List (Int)) (r1 : List (Int)) (s24 : Int) (s25 : Int) : i_WholeStarts_L1 r0 r1 s24 s25 = i_WholeStarts_t1 i_WholeStarts_L1 r0 r1 s24 s25 :=
  (congrArg (fun g => g.1 ((r0, r1, ()), ((), (), s24, s25, ()), ((), (), (), ()))) (FnCx.L_eq i_WholeStarts_ts)).trans (by kernel_rfl)
noncomputable def i_WholeStarts (steps0 : Int) (need1 : Int) (pattern2 : Int) : Option (List Int × Bool) := i_WholeStarts_t0 i_WholeStarts_L1 steps0 need1 pattern2
theorem i_WholeStarts_e (steps0 : Int) (need1 : Int) (pattern2 : Int) : c_i_WholeStarts.start c_i_WholeStarts.L (steps0, need1, pattern2, ()) = i_WholeStarts steps0 need1 pattern2 := by kernel_rfl
noncomputable def F_i_WholeStarts : Ins c_i_WholeStarts.ins → Option (List Int × Bool) := fun x => i_WholeStarts x.1 x.2.1 x.2.2.1
noncomputable def S_i_WholeStarts : FSpec := mkF c_i_WholeStarts.env.pre c_i_WholeStarts.ins c_i_WholeStarts.out c_i_WholeStarts.inj F_i_WholeStarts
theorem h_i_WholeStarts : Cert Try.prog 17 S_i_WholeStarts := FnCx.certF (c := c_i_WholeStarts) F_i_WholeStarts (tyOk _ _ _) (spOk ⟨h_i_PatternStarts, fun _ _ _ => trivial, trivial⟩) (fun _ _ _ _ _ hs => noDr_ok) Try.func17 rfl rfl Try.ntmps17 (by kernel_rfl) rfl rfl (fun _ => rfl) i_WholeStarts_ts i_WholeStarts_hs (fun x t hb ht => by
  obtain ⟨steps0, need1, pattern2, _⟩ := x
  exact (i_WholeStarts_e steps0 need1 pattern2).trans ht)
/-! spec.cpPeriod -/
noncomputable def c_s_cpPeriod : FnCx := { env := env 15 [] [], body := bodyOf Try.f170, res := [.tmp 4], ins := [.ro kint, .ro kint], out := [(kint, true)], T := Int, fin := fun r => r.1.1, inj := fun t => ((t, ()), ((), (), ())), pts := [([.inLoop [1, 1, 0, 0, 0], .inBlock 0, .code [1, 1, 1]], Shape.mk [] [(0, Ss.one (Cs.sc kint)), (1, Ss.one (Cs.sc kint)), (5, Ss.one (Cs.sc kint))] [Ss.one (Cs.any), Ss.one (Cs.any)])], fuel := 400, dr := noDr }
noncomputable def s_cpPeriod_t1 (g1 : Int → Int → Int → Option (Int)) (need0 : Int) (pattern1 : Int) (steps5 : Int) : Option Int :=
  bif pattern1 == 0 then none
  else bif Int.tmod (IntKind.wrap IntKind.i64 (steps5 * need0)) pattern1 != 0 then g1 need0 pattern1 (IntKind.wrap IntKind.i64 (steps5 + 1)) else some steps5
noncomputable def s_cpPeriod_t0 (g1 : Int → Int → Int → Option (Int)) (need0 : Int) (pattern1 : Int) : Option Int :=
  g1 need0 pattern1 1
theorem s_cpPeriod_ts : Tails c_s_cpPeriod.pts c_s_cpPeriod.round :=
  ⟨fun s => by
    obtain ⟨_, ⟨need0, pattern1, steps5, _⟩, ⟨_, _, _⟩⟩ := s
    refine Tail.eq (Y := fun g => s_cpPeriod_t1 (fun need0 pattern1 steps5 => g.1 ((), (need0, pattern1, steps5, ()), ((), (), ()))) need0 pattern1 steps5) ?_ (fun g => by kernel_rfl)
    simp only [s_cpPeriod_t1]; repeat (first | exact Tail.const _ | exact Tail.here _ | exact Tail.there (Tail.here _) | exact Tail.there (Tail.there (Tail.here _)) | exact Tail.there (Tail.there (Tail.there (Tail.here _))) | exact Tail.there (Tail.there (Tail.there (Tail.there (Tail.here _)))) | exact Tail.there (Tail.there (Tail.there (Tail.there (Tail.there (Tail.here _))))) | apply Tail.cond | (apply Tail.bind; intro _)), trivial⟩
theorem s_cpPeriod_hs : ∀ x, Tail c_s_cpPeriod.pts (fun g => c_s_cpPeriod.start g x) := fun x => by
    obtain ⟨need0, pattern1, _⟩ := x
    refine Tail.eq (Y := fun g => s_cpPeriod_t0 (fun need0 pattern1 steps5 => g.1 ((), (need0, pattern1, steps5, ()), ((), (), ()))) need0 pattern1) ?_ (fun g => by kernel_rfl)
    simp only [s_cpPeriod_t0]; repeat (first | exact Tail.const _ | exact Tail.here _ | exact Tail.there (Tail.here _) | exact Tail.there (Tail.there (Tail.here _)) | exact Tail.there (Tail.there (Tail.there (Tail.here _))) | exact Tail.there (Tail.there (Tail.there (Tail.there (Tail.here _)))) | exact Tail.there (Tail.there (Tail.there (Tail.there (Tail.there (Tail.here _))))) | apply Tail.cond | (apply Tail.bind; intro _))
noncomputable def s_cpPeriod_L1 (need0 : Int) (pattern1 : Int) (steps5 : Int) : Option Int := c_s_cpPeriod.L.1 ((), (need0, pattern1, steps5, ()), ((), (), ()))
theorem s_cpPeriod_u1 (need0 : Int) (pattern1 : Int) (steps5 : Int) : s_cpPeriod_L1 need0 pattern1 steps5 = s_cpPeriod_t1 s_cpPeriod_L1 need0 pattern1 steps5 :=
  (congrArg (fun g => g.1 ((), (need0, pattern1, steps5, ()), ((), (), ()))) (FnCx.L_eq s_cpPeriod_ts)).trans (by kernel_rfl)
noncomputable def s_cpPeriod (need0 : Int) (pattern1 : Int) : Option Int := s_cpPeriod_t0 s_cpPeriod_L1 need0 pattern1
theorem s_cpPeriod_e (need0 : Int) (pattern1 : Int) : c_s_cpPeriod.start c_s_cpPeriod.L (need0, pattern1, ()) = s_cpPeriod need0 pattern1 := by kernel_rfl
noncomputable def F_s_cpPeriod : Ins c_s_cpPeriod.ins → Option Int := fun x => s_cpPeriod x.1 x.2.1
noncomputable def S_s_cpPeriod : FSpec := mkF c_s_cpPeriod.env.pre c_s_cpPeriod.ins c_s_cpPeriod.out c_s_cpPeriod.inj F_s_cpPeriod
theorem h_s_cpPeriod : Cert Try.prog 170 S_s_cpPeriod := FnCx.certF (c := c_s_cpPeriod) F_s_cpPeriod (tyOk _ _ _) (spOk trivial) (fun _ _ _ _ _ hs => noDr_ok) Try.func170 rfl rfl Try.ntmps170 (by kernel_rfl) rfl rfl (fun _ => rfl) s_cpPeriod_ts s_cpPeriod_hs (fun x t hb ht => by
  obtain ⟨need0, pattern1, _⟩ := x
  exact (s_cpPeriod_e need0 pattern1).trans ht)
/-! spec.WholeStarts -/
noncomputable def c_s_WholeStarts : FnCx := { env := env 34 [(168, S_s_cpSteps), (169, S_s_cpPattern), (170, S_s_cpPeriod)] [], body := bodyOf Try.f18, res := [.tmp 6, .tmp 7], ins := [.ro kint, .ro kint, .ro kint], out := [(kSint, true), (kbool, true)], T := List Int × Bool, fin := fun r => (r.1.1, r.1.2.1), inj := fun t => ((t.1, t.2, ()), ((), (), (), ())), pts := [([.inLoop [1, 1, 1, 0, 1, 0, 0], .inBlock 0, .code [1, 1, 1, 1]], Shape.mk [Bs.row kint 3 true] [(0, Ss.one (Cs.sc kint)), (1, Ss.one (Cs.sc kint)), (2, Ss.one (Cs.sc kint)), (8, Ss.one (Cs.sl 0)), (9, Ss.one (Cs.sc kint))] [Ss.one (Cs.any), Ss.one (Cs.any), Ss.one (Cs.any)])], fuel := 400, dr := noDr }
noncomputable def s_WholeStarts_t1 (g1 : List (Int) → Int → Int → Int → Int → Option (List Int × Bool)) (r0 : List (Int)) (steps0 : Int) (need1 : Int) (pattern2 : Int) (k9 : Int) : Option (List Int × Bool) :=
  bif decide (k9 < steps0) then
    bif Nat.ble (List.length r0 + 1) 4294967296 then
      Option.bind (s_cpPeriod need1 pattern2) fun r => g1 (r0 ++ [IntKind.wrap IntKind.i64 (k9 + 1)]) steps0 need1 pattern2 (IntKind.wrap IntKind.i64 (k9 + r))
    else none
  else some (r0, true)
noncomputable def s_WholeStarts_t0 (g1 : List (Int) → Int → Int → Int → Int → Option (List Int × Bool)) (steps0 : Int) (need1 : Int) (pattern2 : Int) : Option (List Int × Bool) :=
  bif !s_cpSteps steps0 need1 then some ([], false) else bif !s_cpPattern need1 pattern2 then some ([], false) else g1 [] steps0 need1 pattern2 0
theorem s_WholeStarts_ts : Tails c_s_WholeStarts.pts c_s_WholeStarts.round :=
  ⟨fun s => by
    obtain ⟨⟨r0, _⟩, ⟨steps0, need1, pattern2, _, k9, _⟩, ⟨_, _, _, _⟩⟩ := s
    refine Tail.eq (Y := fun g => s_WholeStarts_t1 (fun r0 steps0 need1 pattern2 k9 => g.1 ((r0, ()), (steps0, need1, pattern2, (), k9, ()), ((), (), (), ()))) r0 steps0 need1 pattern2 k9) ?_ (fun g => by kernel_rfl)
    simp only [s_WholeStarts_t1]; repeat (first | exact Tail.const _ | exact Tail.here _ | exact Tail.there (Tail.here _) | exact Tail.there (Tail.there (Tail.here _)) | exact Tail.there (Tail.there (Tail.there (Tail.here _))) | exact Tail.there (Tail.there (Tail.there (Tail.there (Tail.here _)))) | exact Tail.there (Tail.there (Tail.there (Tail.there (Tail.there (Tail.here _))))) | apply Tail.cond | (apply Tail.bind; intro _)), trivial⟩
theorem s_WholeStarts_hs : ∀ x, Tail c_s_WholeStarts.pts (fun g => c_s_WholeStarts.start g x) := fun x => by
    obtain ⟨steps0, need1, pattern2, _⟩ := x
    refine Tail.eq (Y := fun g => s_WholeStarts_t0 (fun r0 steps0 need1 pattern2 k9 => g.1 ((r0, ()), (steps0, need1, pattern2, (), k9, ()), ((), (), (), ()))) steps0 need1 pattern2) ?_ (fun g => by kernel_rfl)
    simp only [s_WholeStarts_t0]; repeat (first | exact Tail.const _ | exact Tail.here _ | exact Tail.there (Tail.here _) | exact Tail.there (Tail.there (Tail.here _)) | exact Tail.there (Tail.there (Tail.there (Tail.here _))) | exact Tail.there (Tail.there (Tail.there (Tail.there (Tail.here _)))) | exact Tail.there (Tail.there (Tail.there (Tail.there (Tail.there (Tail.here _))))) | apply Tail.cond | (apply Tail.bind; intro _))
noncomputable def s_WholeStarts_L1 (r0 : List (Int)) (steps0 : Int) (need1 : Int) (pattern2 : Int) (k9 : Int) : Option (List Int × Bool) := c_s_WholeStarts.L.1 ((r0, ()), (steps0, need1, pattern2, (), k9, ()), ((), (), (), ()))
theorem s_WholeStarts_u1 (r0 : List (Int)) (steps0 : Int) (need1 : Int) (pattern2 : Int) (k9 : Int) : s_WholeStarts_L1 r0 steps0 need1 pattern2 k9 = s_WholeStarts_t1 s_WholeStarts_L1 r0 steps0 need1 pattern2 k9 :=
  (congrArg (fun g => g.1 ((r0, ()), (steps0, need1, pattern2, (), k9, ()), ((), (), (), ()))) (FnCx.L_eq s_WholeStarts_ts)).trans (by kernel_rfl)
noncomputable def s_WholeStarts (steps0 : Int) (need1 : Int) (pattern2 : Int) : Option (List Int × Bool) := s_WholeStarts_t0 s_WholeStarts_L1 steps0 need1 pattern2
theorem s_WholeStarts_e (steps0 : Int) (need1 : Int) (pattern2 : Int) : c_s_WholeStarts.start c_s_WholeStarts.L (steps0, need1, pattern2, ()) = s_WholeStarts steps0 need1 pattern2 := by kernel_rfl
noncomputable def F_s_WholeStarts : Ins c_s_WholeStarts.ins → Option (List Int × Bool) := fun x => s_WholeStarts x.1 x.2.1 x.2.2.1
noncomputable def S_s_WholeStarts : FSpec := mkF c_s_WholeStarts.env.pre c_s_WholeStarts.ins c_s_WholeStarts.out c_s_WholeStarts.inj F_s_WholeStarts
theorem h_s_WholeStarts : Cert Try.prog 18 S_s_WholeStarts := FnCx.certF (c := c_s_WholeStarts) F_s_WholeStarts (tyOk _ _ _) (spOk ⟨h_s_cpSteps, fun _ _ _ => trivial, ⟨h_s_cpPattern, fun _ _ _ => trivial, ⟨h_s_cpPeriod, fun _ _ _ => trivial, trivial⟩⟩⟩) (fun _ _ _ _ _ hs => noDr_ok) Try.func18 rfl rfl Try.ntmps18 (by kernel_rfl) rfl rfl (fun _ => rfl) s_WholeStarts_ts s_WholeStarts_hs (fun x t hb ht => by
  obtain ⟨steps0, need1, pattern2, _⟩ := x
  exact (s_WholeStarts_e steps0 need1 pattern2).trans ht)
/-! impl.PatternPeriod -/
noncomputable def c_i_PatternPeriod : FnCx := { env := env 19 [(166, S_i_isNeed), (167, S_i_isRoll), (171, S_i_gcd)] [], body := bodyOf Try.f19, res := [.tmp 4, .tmp 5], ins := [.ro kint, .ro kint], out := [(kint, true), (kbool, true)], T := Int × Bool, fin := fun r => (r.1.1, r.1.2.1), inj := fun t => ((t.1, t.2, ()), ((), (), ())), pts := [], fuel := 400, dr := noDr }
noncomputable def i_PatternPeriod (need0 : Int) (pattern1 : Int) : Option (Int × Bool) :=
  bif !i_isNeed need0 then some (0, false)
  else
    bif !i_isRoll pattern1 then some (0, false)
    else Option.bind (i_gcd need0 pattern1) fun r => bif r == 0 then none else some (IntKind.wrap IntKind.i64 (Int.tdiv pattern1 r), true)
theorem i_PatternPeriod_e (need0 : Int) (pattern1 : Int) : c_i_PatternPeriod.start c_i_PatternPeriod.L (need0, pattern1, ()) = i_PatternPeriod need0 pattern1 := by kernel_rfl
noncomputable def F_i_PatternPeriod : Ins c_i_PatternPeriod.ins → Option (Int × Bool) := fun x => i_PatternPeriod x.1 x.2.1
noncomputable def S_i_PatternPeriod : FSpec := mkF c_i_PatternPeriod.env.pre c_i_PatternPeriod.ins c_i_PatternPeriod.out c_i_PatternPeriod.inj F_i_PatternPeriod
theorem h_i_PatternPeriod : Cert Try.prog 19 S_i_PatternPeriod := FnCx.certF (c := c_i_PatternPeriod) F_i_PatternPeriod (tyOk _ _ _) (spOk ⟨h_i_isNeed, fun _ _ _ => trivial, ⟨h_i_isRoll, fun _ _ _ => trivial, ⟨h_i_gcd, fun _ _ _ => trivial, trivial⟩⟩⟩) (fun _ _ _ _ _ hs => noDr_ok) Try.func19 rfl rfl Try.ntmps19 (by kernel_rfl) rfl rfl (fun _ => rfl) trivial (fun x => .inl ⟨c_i_PatternPeriod.start () x, fun _ => rfl⟩) (fun x t hb ht => by
  obtain ⟨need0, pattern1, _⟩ := x
  exact (i_PatternPeriod_e need0 pattern1).trans ht)
/-! spec.PatternPeriod -/
noncomputable def c_s_PatternPeriod : FnCx := { env := env 13 [(169, S_s_cpPattern), (170, S_s_cpPeriod)] [], body := bodyOf Try.f20, res := [.tmp 4, .tmp 5], ins := [.ro kint, .ro kint], out := [(kint, true), (kbool, true)], T := Int × Bool, fin := fun r => (r.1.1, r.1.2.1), inj := fun t => ((t.1, t.2, ()), ((), (), ())), pts := [], fuel := 400, dr := noDr }
noncomputable def s_PatternPeriod (need0 : Int) (pattern1 : Int) : Option (Int × Bool) :=
  bif !s_cpPattern need0 pattern1 then some (0, false) else Option.bind (s_cpPeriod need0 pattern1) fun r => some (r, true)
theorem s_PatternPeriod_e (need0 : Int) (pattern1 : Int) : c_s_PatternPeriod.start c_s_PatternPeriod.L (need0, pattern1, ()) = s_PatternPeriod need0 pattern1 := by kernel_rfl
noncomputable def F_s_PatternPeriod : Ins c_s_PatternPeriod.ins → Option (Int × Bool) := fun x => s_PatternPeriod x.1 x.2.1
noncomputable def S_s_PatternPeriod : FSpec := mkF c_s_PatternPeriod.env.pre c_s_PatternPeriod.ins c_s_PatternPeriod.out c_s_PatternPeriod.inj F_s_PatternPeriod
theorem h_s_PatternPeriod : Cert Try.prog 20 S_s_PatternPeriod := FnCx.certF (c := c_s_PatternPeriod) F_s_PatternPeriod (tyOk _ _ _) (spOk ⟨h_s_cpPattern, fun _ _ _ => trivial, ⟨h_s_cpPeriod, fun _ _ _ => trivial, trivial⟩⟩) (fun _ _ _ _ _ hs => noDr_ok) Try.func20 rfl rfl Try.ntmps20 (by kernel_rfl) rfl rfl (fun _ => rfl) trivial (fun x => .inl ⟨c_s_PatternPeriod.start () x, fun _ => rfl⟩) (fun x t hb ht => by
  obtain ⟨need0, pattern1, _⟩ := x
  exact (s_PatternPeriod_e need0 pattern1).trans ht)
/-! impl.WithPattern -/
noncomputable def c_i_WithPattern : FnCx := { env := env 28 [(166, S_i_isNeed), (167, S_i_isRoll)] [], body := bodyOf Try.f21, res := [.tmp 4, .tmp 5, .tmp 6], ins := [.ro kint, .ro kint], out := [(kint, true), (kint, true), (kbool, true)], T := Int × Int × Bool, fin := fun r => (r.1.1, r.1.2.1, r.1.2.2.1), inj := fun t => ((t.1, t.2.1, t.2.2, ()), ((), (), ())), pts := [], fuel := 400, dr := noDr }
noncomputable def i_WithPattern (need0 : Int) (pattern1 : Int) : Option (Int × Int × Bool) :=
  bif !i_isNeed need0 then some (0, 0, false)
  else
    bif !i_isRoll pattern1 then some (0, 0, false)
    else
      bif pattern1 == 0 then none
      else
        some
          (IntKind.wrap IntKind.i64
              (IntKind.wrap IntKind.i64 (Int.tdiv (IntKind.wrap IntKind.i64 (IntKind.wrap IntKind.i64 (need0 + pattern1) - 1)) pattern1) * pattern1),
            IntKind.wrap IntKind.i64
              (IntKind.wrap IntKind.i64
                  (IntKind.wrap IntKind.i64 (Int.tdiv (IntKind.wrap IntKind.i64 (IntKind.wrap IntKind.i64 (need0 + pattern1) - 1)) pattern1) * pattern1) -
                need0),
            true)
theorem i_WithPattern_e (need0 : Int) (pattern1 : Int) : c_i_WithPattern.start c_i_WithPattern.L (need0, pattern1, ()) = i_WithPattern need0 pattern1 := by kernel_rfl
noncomputable def F_i_WithPattern : Ins c_i_WithPattern.ins → Option (Int × Int × Bool) := fun x => i_WithPattern x.1 x.2.1
noncomputable def S_i_WithPattern : FSpec := mkF c_i_WithPattern.env.pre c_i_WithPattern.ins c_i_WithPattern.out c_i_WithPattern.inj F_i_WithPattern
theorem h_i_WithPattern : Cert Try.prog 21 S_i_WithPattern := FnCx.certF (c := c_i_WithPattern) F_i_WithPattern (tyOk _ _ _) (spOk ⟨h_i_isNeed, fun _ _ _ => trivial, ⟨h_i_isRoll, fun _ _ _ => trivial, trivial⟩⟩) (fun _ _ _ _ _ hs => noDr_ok) Try.func21 rfl rfl Try.ntmps21 (by kernel_rfl) rfl rfl (fun _ => rfl) trivial (fun x => .inl ⟨c_i_WithPattern.start () x, fun _ => rfl⟩) (fun x t hb ht => by
  obtain ⟨need0, pattern1, _⟩ := x
  exact (i_WithPattern_e need0 pattern1).trans ht)
/-! spec.WithPattern -/
noncomputable def c_s_WithPattern : FnCx := { env := env 24 [(169, S_s_cpPattern)] [], body := bodyOf Try.f22, res := [.tmp 4, .tmp 5, .tmp 6], ins := [.ro kint, .ro kint], out := [(kint, true), (kint, true), (kbool, true)], T := Int × Int × Bool, fin := fun r => (r.1.1, r.1.2.1, r.1.2.2.1), inj := fun t => ((t.1, t.2.1, t.2.2, ()), ((), (), ())), pts := [], fuel := 400, dr := noDr }
noncomputable def s_WithPattern (need0 : Int) (pattern1 : Int) : Option (Int × Int × Bool) :=
  bif !s_cpPattern need0 pattern1 then some (0, 0, false)
  else
    bif pattern1 == 0 then none
    else
      some
        (IntKind.wrap IntKind.i64
            (IntKind.wrap IntKind.i64 (Int.tdiv (IntKind.wrap IntKind.i64 (IntKind.wrap IntKind.i64 (need0 + pattern1) - 1)) pattern1) * pattern1),
          IntKind.wrap IntKind.i64
            (IntKind.wrap IntKind.i64
                (IntKind.wrap IntKind.i64 (Int.tdiv (IntKind.wrap IntKind.i64 (IntKind.wrap IntKind.i64 (need0 + pattern1) - 1)) pattern1) * pattern1) -
              need0),
          true)
theorem s_WithPattern_e (need0 : Int) (pattern1 : Int) : c_s_WithPattern.start c_s_WithPattern.L (need0, pattern1, ()) = s_WithPattern need0 pattern1 := by kernel_rfl
noncomputable def F_s_WithPattern : Ins c_s_WithPattern.ins → Option (Int × Int × Bool) := fun x => s_WithPattern x.1 x.2.1
noncomputable def S_s_WithPattern : FSpec := mkF c_s_WithPattern.env.pre c_s_WithPattern.ins c_s_WithPattern.out c_s_WithPattern.inj F_s_WithPattern
theorem h_s_WithPattern : Cert Try.prog 22 S_s_WithPattern := FnCx.certF (c := c_s_WithPattern) F_s_WithPattern (tyOk _ _ _) (spOk ⟨h_s_cpPattern, fun _ _ _ => trivial, trivial⟩) (fun _ _ _ _ _ hs => noDr_ok) Try.func22 rfl rfl Try.ntmps22 (by kernel_rfl) rfl rfl (fun _ => rfl) trivial (fun x => .inl ⟨c_s_WithPattern.start () x, fun _ => rfl⟩) (fun x t hb ht => by
  obtain ⟨need0, pattern1, _⟩ := x
  exact (s_WithPattern_e need0 pattern1).trans ht)
/-! laws.wSame -/
noncomputable def c_w_wSame : FnCx := { env := env 26 [] [], body := bodyOf Try.f23, res := [.tmp 4], ins := [.ro kSint, .ro kSint], out := [(kbool, true)], T := Bool, fin := fun r => r.1.1, inj := fun t => ((t, ()), ((), (), ())), pts := [([.inLoop [1, 1, 0, 1, 0, 0], .inBlock 0, .code [1, 1, 1]], Shape.mk [Bs.row kint 3 false, Bs.row kint 3 false] [(0, Ss.one (Cs.sl 0)), (1, Ss.one (Cs.sl 1)), (12, Ss.one (Cs.sc kint)), (13, Ss.one (Cs.sc kint))] [Ss.one (Cs.any), Ss.one (Cs.any)])], fuel := 400, dr := evDr (env 26 [] []) }
noncomputable def w_wSame_t1 (g1 : List (Int) → List (Int) → Int → Int → Option (Bool)) (r0 : List (Int)) (r1 : List (Int)) (s12 : Int) (s13 : Int) : Option Bool :=
  bif decide (s13 < s12) then
    bif decide (0 ≤ s13) then
      bif decide (s13 < (↑(List.length r0) : Int)) then
        bif decide (0 ≤ s13) then
          bif decide (s13 < (↑(List.length r1) : Int)) then
            bif rdk kint r0 s13 != rdk kint r1 s13 then some false else g1 r0 r1 s12 (IntKind.wrap IntKind.i64 (s13 + 1))
          else none
        else none
      else none
    else none
  else some true
noncomputable def w_wSame_t0 (g1 : List (Int) → List (Int) → Int → Int → Option (Bool)) (a0 : List Int) (b1 : List Int) : Option Bool :=
  bif (↑(List.length a0) : Int) != (↑(List.length b1) : Int) then some false else g1 a0 b1 (↑(List.length a0) : Int) 0
theorem w_wSame_ts : Tails c_w_wSame.pts c_w_wSame.round :=
  ⟨fun s => by
    obtain ⟨⟨r0, r1, _⟩, ⟨_, _, s12, s13, _⟩, ⟨_, _, _⟩⟩ := s
    refine Tail.eq (Y := fun g => w_wSame_t1 (fun r0 r1 s12 s13 => g.1 ((r0, r1, ()), ((), (), s12, s13, ()), ((), (), ()))) r0 r1 s12 s13) ?_ (fun g => by kernel_rfl)
    simp only [w_wSame_t1]; repeat (first | exact Tail.const _ | exact Tail.here _ | exact Tail.there (Tail.here _) | exact Tail.there (Tail.there (Tail.here _)) | exact Tail.there (Tail.there (Tail.there (Tail.here _))) | exact Tail.there (Tail.there (Tail.there (Tail.there (Tail.here _)))) | exact Tail.there (Tail.there (Tail.there (Tail.there (Tail.there (Tail.here _))))) | apply Tail.cond | (apply Tail.bind; intro _)), trivial⟩
theorem w_wSame_hs : ∀ x, Tail c_w_wSame.pts (fun g => c_w_wSame.start g x) := fun x => by
    obtain ⟨a0, b1, _⟩ := x
    refine Tail.eq (Y := fun g => w_wSame_t0 (fun r0 r1 s12 s13 => g.1 ((r0, r1, ()), ((), (), s12, s13, ()), ((), (), ()))) a0 b1) ?_ (fun g => by kernel_rfl)
    simp only [w_wSame_t0]; repeat (first | exact Tail.const _ | exact Tail.here _ | exact Tail.there (Tail.here _) | exact Tail.there (Tail.there (Tail.here _)) | exact Tail.there (Tail.there (Tail.there (Tail.here _))) | exact Tail.there (Tail.there (Tail.there (Tail.there (Tail.here _)))) | exact Tail.there (Tail.there (Tail.there (Tail.there (Tail.there (Tail.here _))))) | apply Tail.cond | (apply Tail.bind; intro _))
noncomputable def w_wSame_L1 (r0 : List (Int)) (r1 : List (Int)) (s12 : Int) (s13 : Int) : Option Bool := c_w_wSame.L.1 ((r0, r1, ()), ((), (), s12, s13, ()), ((), (), ()))
theorem w_wSame_u1 (r0 : List (Int)) (r1 : List (Int)) (s12 : Int) (s13 : Int) : w_wSame_L1 r0 r1 s12 s13 = w_wSame_t1 w_wSame_L1 r0 r1 s12 s13 :=
  (congrArg (fun g => g.1 ((r0, r1, ()), ((), (), s12, s13, ()), ((), (), ()))) (FnCx.L_eq w_wSame_ts)).trans (by kernel_rfl)
noncomputable def w_wSame (a0 : List Int) (b1 : List Int) : Option Bool := w_wSame_t0 w_wSame_L1 a0 b1
theorem w_wSame_e (a0 : List Int) (b1 : List Int) : c_w_wSame.start c_w_wSame.L (a0, b1, ()) = w_wSame a0 b1 := by kernel_rfl
noncomputable def F_w_wSame : Ins c_w_wSame.ins → Option Bool := fun x => w_wSame x.1 x.2.1
noncomputable def S_w_wSame : FSpec := mkF c_w_wSame.env.pre c_w_wSame.ins c_w_wSame.out c_w_wSame.inj F_w_wSame
theorem h_w_wSame : Cert Try.prog 23 S_w_wSame := FnCx.certF (c := c_w_wSame) F_w_wSame (tyOk _ _ _) (spOk trivial) (fun _ _ _ _ _ hs => evDr_ok (tyOk _ _ _) hs follows) Try.func23 rfl rfl Try.ntmps23 (by kernel_rfl) rfl rfl (fun _ => rfl) w_wSame_ts w_wSame_hs (fun x t hb ht => by
  obtain ⟨a0, b1, _⟩ := x
  exact (w_wSame_e a0 b1).trans ht)
/-! laws.wRises -/
noncomputable def c_w_wRises : FnCx := { env := env 20 [] [], body := bodyOf Try.f24, res := [.tmp 2], ins := [.ro kSint], out := [(kbool, true)], T := Bool, fin := fun r => r.1.1, inj := fun t => ((t, ()), ((), ())), pts := [([.inLoop [1, 0, 1, 0, 0], .inBlock 0, .code [1, 1]], Shape.mk [Bs.row kint 3 false] [(0, Ss.one (Cs.sl 0)), (3, Ss.one (Cs.sc kint))] [Ss.one (Cs.any)])], fuel := 400, dr := evDr (env 20 [] []) }
noncomputable def w_wRises_t1 (g1 : List (Int) → Int → Option (Bool)) (r0 : List (Int)) (i3 : Int) : Option Bool :=
  bif decide (i3 < (↑(List.length r0) : Int)) then
    bif decide (0 ≤ IntKind.wrap IntKind.i64 (i3 - 1)) then
      bif decide (IntKind.wrap IntKind.i64 (i3 - 1) < (↑(List.length r0) : Int)) then
        bif decide (0 ≤ i3) then
          bif decide (i3 < (↑(List.length r0) : Int)) then
            bif decide (rdk kint r0 (IntKind.wrap IntKind.i64 (i3 - 1)) ≥ rdk kint r0 i3) then some false
            else g1 r0 (IntKind.wrap IntKind.i64 (i3 + 1))
          else none
        else none
      else none
    else none
  else some true
noncomputable def w_wRises_t0 (g1 : List (Int) → Int → Option (Bool)) (a0 : List Int) : Option Bool :=
  g1 a0 1
theorem w_wRises_ts : Tails c_w_wRises.pts c_w_wRises.round :=
  ⟨fun s => by
    obtain ⟨⟨r0, _⟩, ⟨_, i3, _⟩, ⟨_, _⟩⟩ := s
    refine Tail.eq (Y := fun g => w_wRises_t1 (fun r0 i3 => g.1 ((r0, ()), ((), i3, ()), ((), ()))) r0 i3) ?_ (fun g => by kernel_rfl)
    simp only [w_wRises_t1]; repeat (first | exact Tail.const _ | exact Tail.here _ | exact Tail.there (Tail.here _) | exact Tail.there (Tail.there (Tail.here _)) | exact Tail.there (Tail.there (Tail.there (Tail.here _))) | exact Tail.there (Tail.there (Tail.there (Tail.there (Tail.here _)))) | exact Tail.there (Tail.there (Tail.there (Tail.there (Tail.there (Tail.here _))))) | apply Tail.cond | (apply Tail.bind; intro _)), trivial⟩
theorem w_wRises_hs : ∀ x, Tail c_w_wRises.pts (fun g => c_w_wRises.start g x) := fun x => by
    obtain ⟨a0, _⟩ := x
    refine Tail.eq (Y := fun g => w_wRises_t0 (fun r0 i3 => g.1 ((r0, ()), ((), i3, ()), ((), ()))) a0) ?_ (fun g => by kernel_rfl)
    simp only [w_wRises_t0]; repeat (first | exact Tail.const _ | exact Tail.here _ | exact Tail.there (Tail.here _) | exact Tail.there (Tail.there (Tail.here _)) | exact Tail.there (Tail.there (Tail.there (Tail.here _))) | exact Tail.there (Tail.there (Tail.there (Tail.there (Tail.here _)))) | exact Tail.there (Tail.there (Tail.there (Tail.there (Tail.there (Tail.here _))))) | apply Tail.cond | (apply Tail.bind; intro _))
noncomputable def w_wRises_L1 (r0 : List (Int)) (i3 : Int) : Option Bool := c_w_wRises.L.1 ((r0, ()), ((), i3, ()), ((), ()))
theorem w_wRises_u1 (r0 : List (Int)) (i3 : Int) : w_wRises_L1 r0 i3 = w_wRises_t1 w_wRises_L1 r0 i3 :=
  (congrArg (fun g => g.1 ((r0, ()), ((), i3, ()), ((), ()))) (FnCx.L_eq w_wRises_ts)).trans (by kernel_rfl)
noncomputable def w_wRises (a0 : List Int) : Option Bool := w_wRises_t0 w_wRises_L1 a0
theorem w_wRises_e (a0 : List Int) : c_w_wRises.start c_w_wRises.L (a0, ()) = w_wRises a0 := by kernel_rfl
noncomputable def F_w_wRises : Ins c_w_wRises.ins → Option Bool := fun x => w_wRises x.1
noncomputable def S_w_wRises : FSpec := mkF c_w_wRises.env.pre c_w_wRises.ins c_w_wRises.out c_w_wRises.inj F_w_wRises
theorem h_w_wRises : Cert Try.prog 24 S_w_wRises := FnCx.certF (c := c_w_wRises) F_w_wRises (tyOk _ _ _) (spOk trivial) (fun _ _ _ _ _ hs => evDr_ok (tyOk _ _ _) hs follows) Try.func24 rfl rfl Try.ntmps24 (by kernel_rfl) rfl rfl (fun _ => rfl) w_wRises_ts w_wRises_hs (fun x t hb ht => by
  obtain ⟨a0, _⟩ := x
  exact (w_wRises_e a0).trans ht)
/-! laws.wHas -/
noncomputable def c_w_wHas : FnCx := { env := env 17 [] [], body := bodyOf Try.f25, res := [.tmp 4], ins := [.ro kSint, .ro kint], out := [(kbool, true)], T := Bool, fin := fun r => r.1.1, inj := fun t => ((t, ()), ((), (), ())), pts := [([.inLoop [1, 0, 1, 0, 0], .inBlock 0, .code [1, 1]], Shape.mk [Bs.row kint 3 false] [(1, Ss.one (Cs.sc kint)), (7, Ss.one (Cs.sl 0)), (8, Ss.one (Cs.sc kint)), (9, Ss.one (Cs.sc kint))] [Ss.one (Cs.any), Ss.one (Cs.any)])], fuel := 400, dr := noDr }
noncomputable def w_wHas_t1 (g1 : List (Int) → Int → Int → Int → Option (Bool)) (r0 : List (Int)) (n1 : Int) (s8 : Int) (s9 : Int) : Option Bool :=
  bif decide (s9 < s8) then
    bif decide (0 ≤ s9) then
      bif decide (s9 < (↑(List.length r0) : Int)) then
        bif rdk kint r0 s9 == n1 then some true else g1 r0 n1 s8 (IntKind.wrap IntKind.i64 (s9 + 1))
      else none
    else none
  else some false
noncomputable def w_wHas_t0 (g1 : List (Int) → Int → Int → Int → Option (Bool)) (a0 : List Int) (n1 : Int) : Option Bool :=
  g1 a0 n1 (↑(List.length a0) : Int) 0
theorem w_wHas_ts : Tails c_w_wHas.pts c_w_wHas.round :=
  ⟨fun s => by
    obtain ⟨⟨r0, _⟩, ⟨n1, _, s8, s9, _⟩, ⟨_, _, _⟩⟩ := s
    refine Tail.eq (Y := fun g => w_wHas_t1 (fun r0 n1 s8 s9 => g.1 ((r0, ()), (n1, (), s8, s9, ()), ((), (), ()))) r0 n1 s8 s9) ?_ (fun g => by kernel_rfl)
    simp only [w_wHas_t1]; repeat (first | exact Tail.const _ | exact Tail.here _ | exact Tail.there (Tail.here _) | exact Tail.there (Tail.there (Tail.here _)) | exact Tail.there (Tail.there (Tail.there (Tail.here _))) | exact Tail.there (Tail.there (Tail.there (Tail.there (Tail.here _)))) | exact Tail.there (Tail.there (Tail.there (Tail.there (Tail.there (Tail.here _))))) | apply Tail.cond | (apply Tail.bind; intro _)), trivial⟩
theorem w_wHas_hs : ∀ x, Tail c_w_wHas.pts (fun g => c_w_wHas.start g x) := fun x => by
    obtain ⟨a0, n1, _⟩ := x
    refine Tail.eq (Y := fun g => w_wHas_t0 (fun r0 n1 s8 s9 => g.1 ((r0, ()), (n1, (), s8, s9, ()), ((), (), ()))) a0 n1) ?_ (fun g => by kernel_rfl)
    simp only [w_wHas_t0]; repeat (first | exact Tail.const _ | exact Tail.here _ | exact Tail.there (Tail.here _) | exact Tail.there (Tail.there (Tail.here _)) | exact Tail.there (Tail.there (Tail.there (Tail.here _))) | exact Tail.there (Tail.there (Tail.there (Tail.there (Tail.here _)))) | exact Tail.there (Tail.there (Tail.there (Tail.there (Tail.there (Tail.here _))))) | apply Tail.cond | (apply Tail.bind; intro _))
noncomputable def w_wHas_L1 (r0 : List (Int)) (n1 : Int) (s8 : Int) (s9 : Int) : Option Bool := c_w_wHas.L.1 ((r0, ()), (n1, (), s8, s9, ()), ((), (), ()))
theorem w_wHas_u1 (r0 : List (Int)) (n1 : Int) (s8 : Int) (s9 : Int) : w_wHas_L1 r0 n1 s8 s9 = w_wHas_t1 w_wHas_L1 r0 n1 s8 s9 :=
  (congrArg (fun g => g.1 ((r0, ()), (n1, (), s8, s9, ()), ((), (), ()))) (FnCx.L_eq w_wHas_ts)).trans (by kernel_rfl)
noncomputable def w_wHas (a0 : List Int) (n1 : Int) : Option Bool := w_wHas_t0 w_wHas_L1 a0 n1
theorem w_wHas_e (a0 : List Int) (n1 : Int) : c_w_wHas.start c_w_wHas.L (a0, n1, ()) = w_wHas a0 n1 := by kernel_rfl
noncomputable def F_w_wHas : Ins c_w_wHas.ins → Option Bool := fun x => w_wHas x.1 x.2.1
noncomputable def S_w_wHas : FSpec := mkF c_w_wHas.env.pre c_w_wHas.ins c_w_wHas.out c_w_wHas.inj F_w_wHas
theorem h_w_wHas : Cert Try.prog 25 S_w_wHas := FnCx.certF (c := c_w_wHas) F_w_wHas (tyOk _ _ _) (spOk trivial) (fun _ _ _ _ _ hs => noDr_ok) Try.func25 rfl rfl Try.ntmps25 (by kernel_rfl) rfl rfl (fun _ => rfl) w_wHas_ts w_wHas_hs (fun x t hb ht => by
  obtain ⟨a0, n1, _⟩ := x
  exact (w_wHas_e a0 n1).trans ht)
/-! impl.IsStriped -/
noncomputable def c_i_IsStriped : FnCx := { env := env 23 [(175, S_i_within)] [], body := bodyOf Try.f32, res := [.tmp 2], ins := [.ro kstring], out := [(kbool, true)], T := Bool, fin := fun r => r.1.1, inj := fun t => ((t, ()), ((), ())), pts := [([.inLoop [1, 0, 1, 0, 0], .inBlock 0, .code [1, 1]], Shape.mk [] [(0, Ss.one (Cs.sc kstring)), (6, Ss.one (Cs.sc kint)), (7, Ss.one (Cs.sc kint))] [Ss.one (Cs.any)])], fuel := 400, dr := noDr }
noncomputable def i_IsStriped_t1 (g1 : ByteArray → Int → Int → Option (Bool)) (stripes0 : ByteArray) (s6 : Int) (s7 : Int) : Option Bool :=
  bif decide (s7 < s6) then
    bif decide (0 ≤ s7) then
      bif decide (s7 < (↑(ByteArray.size stripes0) : Int)) then
        bif decide (bt stripes0 s7 < 97) then some false
        else bif decide (bt stripes0 s7 > 122) then some false else g1 stripes0 s6 (IntKind.wrap IntKind.i64 (s7 + 1))
      else none
    else none
  else some (i_within (↑(ByteArray.size stripes0) : Int) 1 10)
noncomputable def i_IsStriped_t0 (g1 : ByteArray → Int → Int → Option (Bool)) (stripes0 : ByteArray) : Option Bool :=
  g1 stripes0 (↑(ByteArray.size stripes0) : Int) 0
theorem i_IsStriped_ts : Tails c_i_IsStriped.pts c_i_IsStriped.round :=
  ⟨fun s => by
    obtain ⟨_, ⟨stripes0, s6, s7, _⟩, ⟨_, _⟩⟩ := s
    refine Tail.eq (Y := fun g => i_IsStriped_t1 (fun stripes0 s6 s7 => g.1 ((), (stripes0, s6, s7, ()), ((), ()))) stripes0 s6 s7) ?_ (fun g => by kernel_rfl)
    simp only [i_IsStriped_t1]; repeat (first | apply Tail.cond | (apply Tail.bind; intro _) | exact Tail.here _ | exact Tail.there (Tail.here _) | exact Tail.there (Tail.there (Tail.here _)) | exact Tail.there (Tail.there (Tail.there (Tail.here _))) | exact Tail.there (Tail.there (Tail.there (Tail.there (Tail.here _)))) | exact Tail.there (Tail.there (Tail.there (Tail.there (Tail.there (Tail.here _))))) | exact Tail.const _), trivial⟩
theorem i_IsStriped_hs : ∀ x, Tail c_i_IsStriped.pts (fun g => c_i_IsStriped.start g x) := fun x => by
    obtain ⟨stripes0, _⟩ := x
    refine Tail.eq (Y := fun g => i_IsStriped_t0 (fun stripes0 s6 s7 => g.1 ((), (stripes0, s6, s7, ()), ((), ()))) stripes0) ?_ (fun g => by kernel_rfl)
    simp only [i_IsStriped_t0]; repeat (first | apply Tail.cond | (apply Tail.bind; intro _) | exact Tail.here _ | exact Tail.there (Tail.here _) | exact Tail.there (Tail.there (Tail.here _)) | exact Tail.there (Tail.there (Tail.there (Tail.here _))) | exact Tail.there (Tail.there (Tail.there (Tail.there (Tail.here _)))) | exact Tail.there (Tail.there (Tail.there (Tail.there (Tail.there (Tail.here _))))) | exact Tail.const _)
noncomputable def i_IsStriped_L1 (stripes0 : ByteArray) (s6 : Int) (s7 : Int) : Option Bool := c_i_IsStriped.L.1 ((), (stripes0, s6, s7, ()), ((), ()))
theorem i_IsStriped_u1 (stripes0 : ByteArray) (s6 : Int) (s7 : Int) : i_IsStriped_L1 stripes0 s6 s7 = i_IsStriped_t1 i_IsStriped_L1 stripes0 s6 s7 :=
  (congrArg (fun g => g.1 ((), (stripes0, s6, s7, ()), ((), ()))) (FnCx.L_eq i_IsStriped_ts)).trans (by kernel_rfl)
noncomputable def i_IsStriped (stripes0 : ByteArray) : Option Bool := i_IsStriped_t0 i_IsStriped_L1 stripes0
theorem i_IsStriped_e (stripes0 : ByteArray) : c_i_IsStriped.start c_i_IsStriped.L (stripes0, ()) = i_IsStriped stripes0 := by kernel_rfl
noncomputable def F_i_IsStriped : Ins c_i_IsStriped.ins → Option Bool := fun x => i_IsStriped x.1
noncomputable def S_i_IsStriped : FSpec := mkF c_i_IsStriped.env.pre c_i_IsStriped.ins c_i_IsStriped.out c_i_IsStriped.inj F_i_IsStriped
theorem h_i_IsStriped : Cert Try.prog 32 S_i_IsStriped := FnCx.certF (c := c_i_IsStriped) F_i_IsStriped (tyOk _ _ _) (spOk ⟨h_i_within, fun _ _ _ => trivial, trivial⟩) (fun _ _ _ _ _ hs => noDr_ok) Try.func32 rfl rfl Try.ntmps32 (by kernel_rfl) rfl rfl (fun _ => rfl) i_IsStriped_ts i_IsStriped_hs (fun x t hb ht => by
  obtain ⟨stripes0, _⟩ := x
  exact (i_IsStriped_e stripes0).trans ht)
/-! impl.ColoursOfStep -/
noncomputable def c_i_ColoursOfStep : FnCx := { env := env 58 [(32, S_i_IsStriped), (166, S_i_isNeed), (165, S_i_isCover)] [], body := bodyOf Try.f26, res := [.tmp 8, .tmp 9], ins := [.ro kstring, .ro kint, .ro kint, .ro kint], out := [(kstring, true), (kbool, true)], T := ByteArray × Bool, fin := fun r => (r.1.1, r.1.2.1), inj := fun t => ((t.1, t.2, ()), ((), (), (), (), ())), pts := [([.inLoop [1, 1, 1, 0, 1, 0, 0], .inBlock 0, .code [1, 1, 1, 1]], Shape.mk [Bs.row kuint8 5 true] [(0, Ss.one (Cs.sc kstring)), (1, Ss.one (Cs.sc kint)), (2, Ss.one (Cs.sc kint)), (3, Ss.one (Cs.sc kint)), (10, Ss.one (Cs.sl 0)), (11, Ss.one (Cs.sc kint))] [Ss.one (Cs.any), Ss.one (Cs.any), Ss.one (Cs.any), Ss.one (Cs.any)])], fuel := 400, dr := noDr }
noncomputable def i_ColoursOfStep_t1 (g1 : List (Int) → ByteArray → Int → Int → Int → Int → Option (ByteArray × Bool)) (r0 : List (Int)) (stripes0 : ByteArray) (wide1 : Int) (need2 : Int) (step3 : Int) (k11 : Int) : Option (ByteArray × Bool) :=
  bif wide1 == 0 then none
  else
    bif decide (k11 ≤ IntKind.wrap IntKind.i64 (Int.tdiv (IntKind.wrap IntKind.i64 (IntKind.wrap IntKind.i64 (step3 * need2) - 1)) wide1)) then
      bif (↑(ByteArray.size stripes0) : Int) == 0 then none
      else
        bif decide (0 ≤ Int.tmod k11 (↑(ByteArray.size stripes0) : Int)) then
          bif decide (Int.tmod k11 (↑(ByteArray.size stripes0) : Int) < (↑(ByteArray.size stripes0) : Int)) then
            bif Nat.ble (List.length r0 + 1) 4294967296 then
              g1 (r0 ++ [bt stripes0 (Int.tmod k11 (↑(ByteArray.size stripes0) : Int))]) stripes0 wide1 need2 step3 (IntKind.wrap IntKind.i64 (k11 + 1))
            else none
          else none
        else none
    else some (List.foldl (fun r n => ByteArray.push r (UInt8.ofNat (Int.toNat n))) ByteArray.empty r0, true)
noncomputable def i_ColoursOfStep_t0 (g1 : List (Int) → ByteArray → Int → Int → Int → Int → Option (ByteArray × Bool)) (stripes0 : ByteArray) (wide1 : Int) (need2 : Int) (step3 : Int) : Option (ByteArray × Bool) :=
  Option.bind (i_IsStriped stripes0) fun r =>
    bif !r then some ({ data := #[] }, false)
    else
      bif !i_isNeed wide1 then some ({ data := #[] }, false)
      else
        bif !i_isNeed need2 then some ({ data := #[] }, false)
        else
          bif !i_isCover step3 then some ({ data := #[] }, false)
          else
            bif wide1 == 0 then none
            else
              g1 [] stripes0 wide1 need2 step3
                (IntKind.wrap IntKind.i64 (Int.tdiv (IntKind.wrap IntKind.i64 (IntKind.wrap IntKind.i64 (step3 - 1) * need2)) wide1))
theorem i_ColoursOfStep_ts : Tails c_i_ColoursOfStep.pts c_i_ColoursOfStep.round :=
  ⟨fun s => by
    obtain ⟨⟨r0, _⟩, ⟨stripes0, wide1, need2, step3, _, k11, _⟩, ⟨_, _, _, _, _⟩⟩ := s
    refine Tail.eq (Y := fun g => i_ColoursOfStep_t1 (fun r0 stripes0 wide1 need2 step3 k11 => g.1 ((r0, ()), (stripes0, wide1, need2, step3, (), k11, ()), ((), (), (), (), ()))) r0 stripes0 wide1 need2 step3 k11) ?_ (fun g => by kernel_rfl)
    simp only [i_ColoursOfStep_t1]; repeat (first | apply Tail.cond | (apply Tail.bind; intro _) | exact Tail.here _ | exact Tail.there (Tail.here _) | exact Tail.there (Tail.there (Tail.here _)) | exact Tail.there (Tail.there (Tail.there (Tail.here _))) | exact Tail.there (Tail.there (Tail.there (Tail.there (Tail.here _)))) | exact Tail.there (Tail.there (Tail.there (Tail.there (Tail.there (Tail.here _))))) | exact Tail.const _), trivial⟩
theorem i_ColoursOfStep_hs : ∀ x, Tail c_i_ColoursOfStep.pts (fun g => c_i_ColoursOfStep.start g x) := fun x => by
    obtain ⟨stripes0, wide1, need2, step3, _⟩ := x
    refine Tail.eq (Y := fun g => i_ColoursOfStep_t0 (fun r0 stripes0 wide1 need2 step3 k11 => g.1 ((r0, ()), (stripes0, wide1, need2, step3, (), k11, ()), ((), (), (), (), ()))) stripes0 wide1 need2 step3) ?_ (fun g => by kernel_rfl)
    simp only [i_ColoursOfStep_t0]; repeat (first | apply Tail.cond | (apply Tail.bind; intro _) | exact Tail.here _ | exact Tail.there (Tail.here _) | exact Tail.there (Tail.there (Tail.here _)) | exact Tail.there (Tail.there (Tail.there (Tail.here _))) | exact Tail.there (Tail.there (Tail.there (Tail.there (Tail.here _)))) | exact Tail.there (Tail.there (Tail.there (Tail.there (Tail.there (Tail.here _))))) | exact Tail.const _)
noncomputable def i_ColoursOfStep_L1 (r0 : List (Int)) (stripes0 : ByteArray) (wide1 : Int) (need2 : Int) (step3 : Int) (k11 : Int) : Option (ByteArray × Bool) := c_i_ColoursOfStep.L.1 ((r0, ()), (stripes0, wide1, need2, step3, (), k11, ()), ((), (), (), (), ()))
theorem i_ColoursOfStep_u1 (r0 : List (Int)) (stripes0 : ByteArray) (wide1 : Int) (need2 : Int) (step3 : Int) (k11 : Int) : i_ColoursOfStep_L1 r0 stripes0 wide1 need2 step3 k11 = i_ColoursOfStep_t1 i_ColoursOfStep_L1 r0 stripes0 wide1 need2 step3 k11 :=
  (congrArg (fun g => g.1 ((r0, ()), (stripes0, wide1, need2, step3, (), k11, ()), ((), (), (), (), ()))) (FnCx.L_eq i_ColoursOfStep_ts)).trans (by kernel_rfl)
noncomputable def i_ColoursOfStep (stripes0 : ByteArray) (wide1 : Int) (need2 : Int) (step3 : Int) : Option (ByteArray × Bool) := i_ColoursOfStep_t0 i_ColoursOfStep_L1 stripes0 wide1 need2 step3
theorem i_ColoursOfStep_e (stripes0 : ByteArray) (wide1 : Int) (need2 : Int) (step3 : Int) : c_i_ColoursOfStep.start c_i_ColoursOfStep.L (stripes0, wide1, need2, step3, ()) = i_ColoursOfStep stripes0 wide1 need2 step3 := by kernel_rfl
noncomputable def F_i_ColoursOfStep : Ins c_i_ColoursOfStep.ins → Option (ByteArray × Bool) := fun x => i_ColoursOfStep x.1 x.2.1 x.2.2.1 x.2.2.2.1
noncomputable def S_i_ColoursOfStep : FSpec := mkF c_i_ColoursOfStep.env.pre c_i_ColoursOfStep.ins c_i_ColoursOfStep.out c_i_ColoursOfStep.inj F_i_ColoursOfStep
theorem h_i_ColoursOfStep : Cert Try.prog 26 S_i_ColoursOfStep := FnCx.certF (c := c_i_ColoursOfStep) F_i_ColoursOfStep (tyOk _ _ _) (spOk ⟨h_i_IsStriped, fun _ _ _ => trivial, ⟨h_i_isNeed, fun _ _ _ => trivial, ⟨h_i_isCover, fun _ _ _ => trivial, trivial⟩⟩⟩) (fun _ _ _ _ _ hs => noDr_ok) Try.func26 rfl rfl Try.ntmps26 (by kernel_rfl) rfl rfl (fun _ => rfl) i_ColoursOfStep_ts i_ColoursOfStep_hs (fun x t hb ht => by
  obtain ⟨stripes0, wide1, need2, step3, _⟩ := x
  exact (i_ColoursOfStep_e stripes0 wide1 need2 step3).trans ht)
/-! spec.cpStripes -/
noncomputable def c_s_cpStripes : FnCx := { env := env 24 [(176, S_s_l1In)] [], body := bodyOf Try.f177, res := [.tmp 2], ins := [.ro kstring], out := [(kbool, true)], T := Bool, fin := fun r => r.1.1, inj := fun t => ((t, ()), ((), ())), pts := [([.inLoop [1, 1, 0, 1, 0, 0], .inBlock 0, .code [1, 1, 1]], Shape.mk [] [(0, Ss.one (Cs.sc kstring)), (3, Ss.one (Cs.sc kint))] [Ss.one (Cs.any)])], fuel := 400, dr := noDr }
noncomputable def s_cpStripes_t1 (g1 : ByteArray → Int → Option (Bool)) (stripes0 : ByteArray) (i3 : Int) : Option Bool :=
  bif decide (i3 < (↑(ByteArray.size stripes0) : Int)) then
    bif decide (0 ≤ i3) then
      bif decide (i3 < (↑(ByteArray.size stripes0) : Int)) then
        bif decide (bt stripes0 i3 < 97) then some false
        else
          bif decide (0 ≤ i3) then
            bif decide (i3 < (↑(ByteArray.size stripes0) : Int)) then
              bif decide (bt stripes0 i3 > 122) then some false else g1 stripes0 (IntKind.wrap IntKind.i64 (i3 + 1))
            else none
          else none
      else none
    else none
  else some true
noncomputable def s_cpStripes_t0 (g1 : ByteArray → Int → Option (Bool)) (stripes0 : ByteArray) : Option Bool :=
  bif !s_l1In (↑(ByteArray.size stripes0) : Int) 1 10 then some false else g1 stripes0 0
theorem s_cpStripes_ts : Tails c_s_cpStripes.pts c_s_cpStripes.round :=
  ⟨fun s => by
    obtain ⟨_, ⟨stripes0, i3, _⟩, ⟨_, _⟩⟩ := s
    refine Tail.eq (Y := fun g => s_cpStripes_t1 (fun stripes0 i3 => g.1 ((), (stripes0, i3, ()), ((), ()))) stripes0 i3) ?_ (fun g => by kernel_rfl)
    simp only [s_cpStripes_t1]; repeat (first | apply Tail.cond | (apply Tail.bind; intro _) | exact Tail.here _ | exact Tail.there (Tail.here _) | exact Tail.there (Tail.there (Tail.here _)) | exact Tail.there (Tail.there (Tail.there (Tail.here _))) | exact Tail.there (Tail.there (Tail.there (Tail.there (Tail.here _)))) | exact Tail.there (Tail.there (Tail.there (Tail.there (Tail.there (Tail.here _))))) | exact Tail.const _), trivial⟩
theorem s_cpStripes_hs : ∀ x, Tail c_s_cpStripes.pts (fun g => c_s_cpStripes.start g x) := fun x => by
    obtain ⟨stripes0, _⟩ := x
    refine Tail.eq (Y := fun g => s_cpStripes_t0 (fun stripes0 i3 => g.1 ((), (stripes0, i3, ()), ((), ()))) stripes0) ?_ (fun g => by kernel_rfl)
    simp only [s_cpStripes_t0]; repeat (first | apply Tail.cond | (apply Tail.bind; intro _) | exact Tail.here _ | exact Tail.there (Tail.here _) | exact Tail.there (Tail.there (Tail.here _)) | exact Tail.there (Tail.there (Tail.there (Tail.here _))) | exact Tail.there (Tail.there (Tail.there (Tail.there (Tail.here _)))) | exact Tail.there (Tail.there (Tail.there (Tail.there (Tail.there (Tail.here _))))) | exact Tail.const _)
noncomputable def s_cpStripes_L1 (stripes0 : ByteArray) (i3 : Int) : Option Bool := c_s_cpStripes.L.1 ((), (stripes0, i3, ()), ((), ()))
theorem s_cpStripes_u1 (stripes0 : ByteArray) (i3 : Int) : s_cpStripes_L1 stripes0 i3 = s_cpStripes_t1 s_cpStripes_L1 stripes0 i3 :=
  (congrArg (fun g => g.1 ((), (stripes0, i3, ()), ((), ()))) (FnCx.L_eq s_cpStripes_ts)).trans (by kernel_rfl)
noncomputable def s_cpStripes (stripes0 : ByteArray) : Option Bool := s_cpStripes_t0 s_cpStripes_L1 stripes0
theorem s_cpStripes_e (stripes0 : ByteArray) : c_s_cpStripes.start c_s_cpStripes.L (stripes0, ()) = s_cpStripes stripes0 := by kernel_rfl
noncomputable def F_s_cpStripes : Ins c_s_cpStripes.ins → Option Bool := fun x => s_cpStripes x.1
noncomputable def S_s_cpStripes : FSpec := mkF c_s_cpStripes.env.pre c_s_cpStripes.ins c_s_cpStripes.out c_s_cpStripes.inj F_s_cpStripes
theorem h_s_cpStripes : Cert Try.prog 177 S_s_cpStripes := FnCx.certF (c := c_s_cpStripes) F_s_cpStripes (tyOk _ _ _) (spOk ⟨h_s_l1In, fun _ _ _ => trivial, trivial⟩) (fun _ _ _ _ _ hs => noDr_ok) Try.func177 rfl rfl Try.ntmps177 (by kernel_rfl) rfl rfl (fun _ => rfl) s_cpStripes_ts s_cpStripes_hs (fun x t hb ht => by
  obtain ⟨stripes0, _⟩ := x
  exact (s_cpStripes_e stripes0).trans ht)
/-! spec.cpWide -/
noncomputable def c_s_cpWide : FnCx := { env := env 11 [(177, S_s_cpStripes), (265, S_s_cpNeed)] [], body := bodyOf Try.f172, res := [.tmp 4], ins := [.ro kstring, .ro kint], out := [(kbool, true)], T := Bool, fin := fun r => r.1.1, inj := fun t => ((t, ()), ((), (), ())), pts := [], fuel := 400, dr := noDr }
noncomputable def s_cpWide (stripes0 : ByteArray) (wide1 : Int) : Option Bool :=
  Option.bind (s_cpStripes stripes0) fun r => bif r then some (s_cpNeed wide1) else some false
theorem s_cpWide_e (stripes0 : ByteArray) (wide1 : Int) : c_s_cpWide.start c_s_cpWide.L (stripes0, wide1, ()) = s_cpWide stripes0 wide1 := by kernel_rfl
noncomputable def F_s_cpWide : Ins c_s_cpWide.ins → Option Bool := fun x => s_cpWide x.1 x.2.1
noncomputable def S_s_cpWide : FSpec := mkF c_s_cpWide.env.pre c_s_cpWide.ins c_s_cpWide.out c_s_cpWide.inj F_s_cpWide
theorem h_s_cpWide : Cert Try.prog 172 S_s_cpWide := FnCx.certF (c := c_s_cpWide) F_s_cpWide (tyOk _ _ _) (spOk ⟨h_s_cpStripes, fun _ _ _ => trivial, ⟨h_s_cpNeed, fun _ _ _ => trivial, trivial⟩⟩) (fun _ _ _ _ _ hs => noDr_ok) Try.func172 rfl rfl Try.ntmps172 (by kernel_rfl) rfl rfl (fun _ => rfl) trivial (fun x => .inl ⟨c_s_cpWide.start () x, fun _ => rfl⟩) (fun x t hb ht => by
  obtain ⟨stripes0, wide1, _⟩ := x
  exact (s_cpWide_e stripes0 wide1).trans ht)
/-! spec.ColoursOfStep -/
noncomputable def c_s_ColoursOfStep : FnCx := { env := env 52 [(172, S_s_cpWide), (168, S_s_cpSteps)] [], body := bodyOf Try.f27, res := [.tmp 8, .tmp 9], ins := [.ro kstring, .ro kint, .ro kint, .ro kint], out := [(kstring, true), (kbool, true)], T := ByteArray × Bool, fin := fun r => (r.1.1, r.1.2.1), inj := fun t => ((t.1, t.2, ()), ((), (), (), (), ())), pts := [([.inLoop [1, 1, 1, 1, 0, 1, 0, 0], .inBlock 0, .code [1, 1, 1, 1, 1]], Shape.mk [] [(0, Ss.one (Cs.sc kstring)), (1, Ss.one (Cs.sc kint)), (2, Ss.one (Cs.sc kint)), (10, Ss.one (Cs.sc kstring)), (11, Ss.one (Cs.sc kint)), (12, Ss.one (Cs.sc kint))] [Ss.one (Cs.any), Ss.one (Cs.any), Ss.one (Cs.any), Ss.one (Cs.any)])], fuel := 400, dr := noDr }
noncomputable def s_ColoursOfStep_t1 (g1 : ByteArray → Int → Int → ByteArray → Int → Int → Option (ByteArray × Bool)) (stripes0 : ByteArray) (wide1 : Int) (need2 : Int) (out10 : ByteArray) (begin11 : Int) (stripe12 : Int) : Option (ByteArray × Bool) :=
  bif decide (IntKind.wrap IntKind.i64 (stripe12 * wide1) < IntKind.wrap IntKind.i64 (begin11 + need2)) then
    bif (↑(ByteArray.size stripes0) : Int) == 0 then none
    else
      bif decide (0 ≤ IntKind.wrap IntKind.i64 (Int.tmod stripe12 (↑(ByteArray.size stripes0) : Int) + 1)) then
        bif decide (IntKind.wrap IntKind.i64 (Int.tmod stripe12 (↑(ByteArray.size stripes0) : Int) + 1) ≤ (↑(ByteArray.size stripes0) : Int)) then
          bif decide (0 ≤ Int.tmod stripe12 (↑(ByteArray.size stripes0) : Int)) then
            bif
                decide
                  (Int.tmod stripe12 (↑(ByteArray.size stripes0) : Int) ≤
                    IntKind.wrap IntKind.i64 (Int.tmod stripe12 (↑(ByteArray.size stripes0) : Int) + 1)) then
              bif
                  Nat.ble
                    (ByteArray.size out10 +
                      ByteArray.size
                        (ByteArray.extract stripes0 (Int.toNat (Int.tmod stripe12 (↑(ByteArray.size stripes0) : Int)))
                          (Int.toNat (IntKind.wrap IntKind.i64 (Int.tmod stripe12 (↑(ByteArray.size stripes0) : Int) + 1)))))
                    9223372036854775807 then
                g1 stripes0 wide1 need2
                  (out10 ++
                    ByteArray.extract stripes0 (Int.toNat (Int.tmod stripe12 (↑(ByteArray.size stripes0) : Int)))
                      (Int.toNat (IntKind.wrap IntKind.i64 (Int.tmod stripe12 (↑(ByteArray.size stripes0) : Int) + 1))))
                  begin11 (IntKind.wrap IntKind.i64 (stripe12 + 1))
              else none
            else none
          else none
        else none
      else none
  else some (out10, true)
noncomputable def s_ColoursOfStep_t0 (g1 : ByteArray → Int → Int → ByteArray → Int → Int → Option (ByteArray × Bool)) (stripes0 : ByteArray) (wide1 : Int) (need2 : Int) (step3 : Int) : Option (ByteArray × Bool) :=
  Option.bind (s_cpWide stripes0 wide1) fun r =>
    bif !r then some ({ data := #[] }, false)
    else
      bif !s_cpSteps step3 need2 then some ({ data := #[] }, false)
      else
        bif wide1 == 0 then none
        else
          g1 stripes0 wide1 need2 { data := #[] } (IntKind.wrap IntKind.i64 (IntKind.wrap IntKind.i64 (step3 - 1) * need2))
            (IntKind.wrap IntKind.i64 (Int.tdiv (IntKind.wrap IntKind.i64 (IntKind.wrap IntKind.i64 (step3 - 1) * need2)) wide1))
theorem s_ColoursOfStep_ts : Tails c_s_ColoursOfStep.pts c_s_ColoursOfStep.round :=
  ⟨fun s => by
    obtain ⟨_, ⟨stripes0, wide1, need2, out10, begin11, stripe12, _⟩, ⟨_, _, _, _, _⟩⟩ := s
    refine Tail.eq (Y := fun g => s_ColoursOfStep_t1 (fun stripes0 wide1 need2 out10 begin11 stripe12 => g.1 ((), (stripes0, wide1, need2, out10, begin11, stripe12, ()), ((), (), (), (), ()))) stripes0 wide1 need2 out10 begin11 stripe12) ?_ (fun g => by kernel_rfl)
    simp only [s_ColoursOfStep_t1]; repeat (first | apply Tail.cond | (apply Tail.bind; intro _) | exact Tail.here _ | exact Tail.there (Tail.here _) | exact Tail.there (Tail.there (Tail.here _)) | exact Tail.there (Tail.there (Tail.there (Tail.here _))) | exact Tail.there (Tail.there (Tail.there (Tail.there (Tail.here _)))) | exact Tail.there (Tail.there (Tail.there (Tail.there (Tail.there (Tail.here _))))) | exact Tail.const _), trivial⟩
theorem s_ColoursOfStep_hs : ∀ x, Tail c_s_ColoursOfStep.pts (fun g => c_s_ColoursOfStep.start g x) := fun x => by
    obtain ⟨stripes0, wide1, need2, step3, _⟩ := x
    refine Tail.eq (Y := fun g => s_ColoursOfStep_t0 (fun stripes0 wide1 need2 out10 begin11 stripe12 => g.1 ((), (stripes0, wide1, need2, out10, begin11, stripe12, ()), ((), (), (), (), ()))) stripes0 wide1 need2 step3) ?_ (fun g => by kernel_rfl)
    simp only [s_ColoursOfStep_t0]; repeat (first | apply Tail.cond | (apply Tail.bind; intro _) | exact Tail.here _ | exact Tail.there (Tail.here _) | exact Tail.there (Tail.there (Tail.here _)) | exact Tail.there (Tail.there (Tail.there (Tail.here _))) | exact Tail.there (Tail.there (Tail.there (Tail.there (Tail.here _)))) | exact Tail.there (Tail.there (Tail.there (Tail.there (Tail.there (Tail.here _))))) | exact Tail.const _)
noncomputable def s_ColoursOfStep_L1 (stripes0 : ByteArray) (wide1 : Int) (need2 : Int) (out10 : ByteArray) (begin11 : Int) (stripe12 : Int) : Option (ByteArray × Bool) := c_s_ColoursOfStep.L.1 ((), (stripes0, wide1, need2, out10, begin11, stripe12, ()), ((), (), (), (), ()))
theorem s_ColoursOfStep_u1 (stripes0 : ByteArray) (wide1 : Int) (need2 : Int) (out10 : ByteArray) (begin11 : Int) (stripe12 : Int) : s_ColoursOfStep_L1 stripes0 wide1 need2 out10 begin11 stripe12 = s_ColoursOfStep_t1 s_ColoursOfStep_L1 stripes0 wide1 need2 out10 begin11 stripe12 :=
  (congrArg (fun g => g.1 ((), (stripes0, wide1, need2, out10, begin11, stripe12, ()), ((), (), (), (), ()))) (FnCx.L_eq s_ColoursOfStep_ts)).trans (by kernel_rfl)
noncomputable def s_ColoursOfStep (stripes0 : ByteArray) (wide1 : Int) (need2 : Int) (step3 : Int) : Option (ByteArray × Bool) := s_ColoursOfStep_t0 s_ColoursOfStep_L1 stripes0 wide1 need2 step3
theorem s_ColoursOfStep_e (stripes0 : ByteArray) (wide1 : Int) (need2 : Int) (step3 : Int) : c_s_ColoursOfStep.start c_s_ColoursOfStep.L (stripes0, wide1, need2, step3, ()) = s_ColoursOfStep stripes0 wide1 need2 step3 := by kernel_rfl
noncomputable def F_s_ColoursOfStep : Ins c_s_ColoursOfStep.ins → Option (ByteArray × Bool) := fun x => s_ColoursOfStep x.1 x.2.1 x.2.2.1 x.2.2.2.1
noncomputable def S_s_ColoursOfStep : FSpec := mkF c_s_ColoursOfStep.env.pre c_s_ColoursOfStep.ins c_s_ColoursOfStep.out c_s_ColoursOfStep.inj F_s_ColoursOfStep
theorem h_s_ColoursOfStep : Cert Try.prog 27 S_s_ColoursOfStep := FnCx.certF (c := c_s_ColoursOfStep) F_s_ColoursOfStep (tyOk _ _ _) (spOk ⟨h_s_cpWide, fun _ _ _ => trivial, ⟨h_s_cpSteps, fun _ _ _ => trivial, trivial⟩⟩) (fun _ _ _ _ _ hs => noDr_ok) Try.func27 rfl rfl Try.ntmps27 (by kernel_rfl) rfl rfl (fun _ => rfl) s_ColoursOfStep_ts s_ColoursOfStep_hs (fun x t hb ht => by
  obtain ⟨stripes0, wide1, need2, step3, _⟩ := x
  exact (s_ColoursOfStep_e stripes0 wide1 need2 step3).trans ht)
/-! impl.colour -/
noncomputable def c_i_colour : FnCx := { env := env 15 [] [], body := bodyOf Try.f173, res := [.tmp 6], ins := [.ro kstring, .ro kint, .ro kint], out := [(kuint8, true)], T := Int, fin := fun r => r.1.1, inj := fun t => ((t, ()), ((), (), (), ())), pts := [], fuel := 400, dr := noDr }
noncomputable def i_colour (stripes0 : ByteArray) (wide1 : Int) (place2 : Int) : Option Int :=
  bif wide1 == 0 then none
  else
    bif (↑(ByteArray.size stripes0) : Int) == 0 then none
    else
      bif decide (0 ≤ Int.tmod (IntKind.wrap IntKind.i64 (Int.tdiv place2 wide1)) (↑(ByteArray.size stripes0) : Int)) then
        bif decide (Int.tmod (IntKind.wrap IntKind.i64 (Int.tdiv place2 wide1)) (↑(ByteArray.size stripes0) : Int) < (↑(ByteArray.size stripes0) : Int)) then
          some (bt stripes0 (Int.tmod (IntKind.wrap IntKind.i64 (Int.tdiv place2 wide1)) (↑(ByteArray.size stripes0) : Int)))
        else none
      else none
theorem i_colour_e (stripes0 : ByteArray) (wide1 : Int) (place2 : Int) : c_i_colour.start c_i_colour.L (stripes0, wide1, place2, ()) = i_colour stripes0 wide1 place2 := by kernel_rfl
noncomputable def F_i_colour : Ins c_i_colour.ins → Option Int := fun x => i_colour x.1 x.2.1 x.2.2.1
noncomputable def S_i_colour : FSpec := mkF c_i_colour.env.pre c_i_colour.ins c_i_colour.out c_i_colour.inj F_i_colour
theorem h_i_colour : Cert Try.prog 173 S_i_colour := FnCx.certF (c := c_i_colour) F_i_colour (tyOk _ _ _) (spOk trivial) (fun _ _ _ _ _ hs => noDr_ok) Try.func173 rfl rfl Try.ntmps173 (by kernel_rfl) rfl rfl (fun _ => rfl) trivial (fun x => .inl ⟨c_i_colour.start () x, fun _ => rfl⟩) (fun x t hb ht => by
  obtain ⟨stripes0, wide1, place2, _⟩ := x
  exact (i_colour_e stripes0 wide1 place2).trans ht)
/-! impl.AlikeSteps -/
noncomputable def c_i_AlikeSteps : FnCx := { env := env 66 [(32, S_i_IsStriped), (166, S_i_isNeed), (165, S_i_isCover), (173, S_i_colour)] [], body := bodyOf Try.f28, res := [.tmp 8, .tmp 9], ins := [.ro kstring, .ro kint, .ro kint, .ro kint], out := [(kSint, true), (kbool, true)], T := List Int × Bool, fin := fun r => (r.1.1, r.1.2.1), inj := fun t => ((t.1, t.2, ()), ((), (), (), (), ())), pts := [([.inLoop [1, 1, 1, 0, 1, 0, 0], .inBlock 0, .code [1, 1, 1, 1]], Shape.mk [Bs.row kint 3 true] [(0, Ss.one (Cs.sc kstring)), (1, Ss.one (Cs.sc kint)), (2, Ss.one (Cs.sc kint)), (3, Ss.one (Cs.sc kint)), (10, Ss.one (Cs.sl 0)), (11, Ss.one (Cs.sc kint))] [Ss.one (Cs.any), Ss.one (Cs.any), Ss.one (Cs.any), Ss.one (Cs.any)]), ([.inLoop [1, 1, 1, 0, 1, 0, 0, 1, 0, 0, 1, 0, 1, 0, 0], .inBlock 2, .code [1, 1, 1, 0, 1, 0, 0, 1, 0, 0, 1, 1], .inBlock 1, .code [1, 1, 1, 0, 1, 0, 0, 1, 1], .inLoop [1, 1, 1, 0, 1, 0, 0], .inBlock 0, .code [1, 1, 1, 1]], Shape.mk [Bs.row kint 3 true] [(0, Ss.one (Cs.sc kstring)), (1, Ss.one (Cs.sc kint)), (2, Ss.one (Cs.sc kint)), (3, Ss.one (Cs.sc kint)), (10, Ss.one (Cs.sl 0)), (11, Ss.one (Cs.sc kint)), (12, Ss.one (Cs.sc kbool)), (38, Ss.one (Cs.sc kint)), (39, Ss.one (Cs.sc kint))] [Ss.one (Cs.any), Ss.one (Cs.any), Ss.one (Cs.any), Ss.one (Cs.any)])], fuel := 400, dr := noDr }
noncomputable def i_AlikeSteps_t1 (g1 : List (Int) → ByteArray → Int → Int → Int → Int → Option (List Int × Bool)) (g2 : List (Int) → ByteArray → Int → Int → Int → Int → Bool → Int → Int → Option (List Int × Bool)) (r0 : List (Int)) (stripes0 : ByteArray) (wide1 : Int) (need2 : Int) (steps3 : Int) (k11 : Int) : Option (List Int × Bool) :=
  bif decide (k11 < steps3) then g2 r0 stripes0 wide1 need2 steps3 k11 true need2 0 else some (r0, true)
noncomputable def i_AlikeSteps_t2 (g1 : List (Int) → ByteArray → Int → Int → Int → Int → Option (List Int × Bool)) (g2 : List (Int) → ByteArray → Int → Int → Int → Int → Bool → Int → Int → Option (List Int × Bool)) (r0 : List (Int)) (stripes0 : ByteArray) (wide1 : Int) (need2 : Int) (steps3 : Int) (k11 : Int) (alike12 : Bool) (s38 : Int) (s39 : Int) : Option (List Int × Bool) :=
  bif decide (s39 < s38) then
    bif alike12 then
      Option.bind (i_colour stripes0 wide1 (IntKind.wrap IntKind.i64 (IntKind.wrap IntKind.i64 (k11 * need2) + s39))) fun r =>
        Option.bind (i_colour stripes0 wide1 s39) fun r_1 => g2 r0 stripes0 wide1 need2 steps3 k11 (r == r_1) s38 (IntKind.wrap IntKind.i64 (s39 + 1))
    else g2 r0 stripes0 wide1 need2 steps3 k11 false s38 (IntKind.wrap IntKind.i64 (s39 + 1))
  else
    bif alike12 then
      bif Nat.ble (List.length r0 + 1) 4294967296 then
        g1 (r0 ++ [IntKind.wrap IntKind.i64 (k11 + 1)]) stripes0 wide1 need2 steps3 (IntKind.wrap IntKind.i64 (k11 + 1))
      else none
    else g1 r0 stripes0 wide1 need2 steps3 (IntKind.wrap IntKind.i64 (k11 + 1))
noncomputable def i_AlikeSteps_t0 (g1 : List (Int) → ByteArray → Int → Int → Int → Int → Option (List Int × Bool)) (g2 : List (Int) → ByteArray → Int → Int → Int → Int → Bool → Int → Int → Option (List Int × Bool)) (stripes0 : ByteArray) (wide1 : Int) (need2 : Int) (steps3 : Int) : Option (List Int × Bool) :=
  Option.bind (i_IsStriped stripes0) fun r =>
    bif !r then some ([], false)
    else
      bif !i_isNeed wide1 then some ([], false)
      else bif !i_isNeed need2 then some ([], false) else bif !i_isCover steps3 then some ([], false) else g1 [] stripes0 wide1 need2 steps3 1
theorem i_AlikeSteps_ts : Tails c_i_AlikeSteps.pts c_i_AlikeSteps.round :=
  ⟨fun s => by
    obtain ⟨⟨r0, _⟩, ⟨stripes0, wide1, need2, steps3, _, k11, _⟩, ⟨_, _, _, _, _⟩⟩ := s
    refine Tail.eq (Y := fun g => i_AlikeSteps_t1 (fun r0 stripes0 wide1 need2 steps3 k11 => g.1 ((r0, ()), (stripes0, wide1, need2, steps3, (), k11, ()), ((), (), (), (), ()))) (fun r0 stripes0 wide1 need2 steps3 k11 alike12 s38 s39 => g.2.1 ((r0, ()), (stripes0, wide1, need2, steps3, (), k11, alike12, s38, s39, ()), ((), (), (), (), ()))) r0 stripes0 wide1 need2 steps3 k11) ?_ (fun g => by kernel_rfl)
    simp only [i_AlikeSteps_t1]; repeat (first | exact Tail.const _ | exact Tail.here _ | exact Tail.there (Tail.here _) | exact Tail.there (Tail.there (Tail.here _)) | exact Tail.there (Tail.there (Tail.there (Tail.here _))) | exact Tail.there (Tail.there (Tail.there (Tail.there (Tail.here _)))) | exact Tail.there (Tail.there (Tail.there (Tail.there (Tail.there (Tail.here _))))) | apply Tail.cond | (apply Tail.bind; intro _)),
  fun s => by
    obtain ⟨⟨r0, _⟩, ⟨stripes0, wide1, need2, steps3, _, k11, alike12, s38, s39, _⟩, ⟨_, _, _, _, _⟩⟩ := s
    refine Tail.eq (Y := fun g => i_AlikeSteps_t2 (fun r0 stripes0 wide1 need2 steps3 k11 => g.1 ((r0, ()), (stripes0, wide1, need2, steps3, (), k11, ()), ((), (), (), (), ()))) (fun r0 stripes0 wide1 need2 steps3 k11 alike12 s38 s39 => g.2.1 ((r0, ()), (stripes0, wide1, need2, steps3, (), k11, alike12, s38, s39, ()), ((), (), (), (), ()))) r0 stripes0 wide1 need2 steps3 k11 alike12 s38 s39) ?_ (fun g => by kernel_rfl)
    simp only [i_AlikeSteps_t2]; repeat (first | exact Tail.const _ | exact Tail.here _ | exact Tail.there (Tail.here _) | exact Tail.there (Tail.there (Tail.here _)) | exact Tail.there (Tail.there (Tail.there (Tail.here _))) | exact Tail.there (Tail.there (Tail.there (Tail.there (Tail.here _)))) | exact Tail.there (Tail.there (Tail.there (Tail.there (Tail.there (Tail.here _))))) | apply Tail.cond | (apply Tail.bind; intro _)), trivial⟩
theorem i_AlikeSteps_hs : ∀ x, Tail c_i_AlikeSteps.pts (fun g => c_i_AlikeSteps.start g x) := fun x => by
    obtain ⟨stripes0, wide1, need2, steps3, _⟩ := x
    refine Tail.eq (Y := fun g => i_AlikeSteps_t0 (fun r0 stripes0 wide1 need2 steps3 k11 => g.1 ((r0, ()), (stripes0, wide1, need2, steps3, (), k11, ()), ((), (), (), (), ()))) (fun r0 stripes0 wide1 need2 steps3 k11 alike12 s38 s39 => g.2.1 ((r0, ()), (stripes0, wide1, need2, steps3, (), k11, alike12, s38, s39, ()), ((), (), (), (), ()))) stripes0 wide1 need2 steps3) ?_ (fun g => by kernel_rfl)
    simp only [i_AlikeSteps_t0]; repeat (first | exact Tail.const _ | exact Tail.here _ | exact Tail.there (Tail.here _) | exact Tail.there (Tail.there (Tail.here _)) | exact Tail.there (Tail.there (Tail.there (Tail.here _))) | exact Tail.there (Tail.there (Tail.there (Tail.there (Tail.here _)))) | exact Tail.there (Tail.there (Tail.there (Tail.there (Tail.there (Tail.here _))))) | apply Tail.cond | (apply Tail.bind; intro _))
noncomputable def i_AlikeSteps_L1 (r0 : List (Int)) (stripes0 : ByteArray) (wide1 : Int) (need2 : Int) (steps3 : Int) (k11 : Int) : Option (List Int × Bool) := c_i_AlikeSteps.L.1 ((r0, ()), (stripes0, wide1, need2, steps3, (), k11, ()), ((), (), (), (), ()))
noncomputable def i_AlikeSteps_L2 (r0 : List (Int)) (stripes0 : ByteArray) (wide1 : Int) (need2 : Int) (steps3 : Int) (k11 : Int) (alike12 : Bool) (s38 : Int) (s39 : Int) : Option (List Int × Bool) := c_i_AlikeSteps.L.2.1 ((r0, ()), (stripes0, wide1, need2, steps3, (), k11, alike12, s38, s39, ()), ((), (), (), (), ()))
theorem i_AlikeSteps_u1 (r0 : List (Int)) (stripes0 : ByteArray) (wide1 : Int) (need2 : Int) (steps3 : Int) (k11 : Int) : i_AlikeSteps_L1 r0 stripes0 wide1 need2 steps3 k11 = i_AlikeSteps_t1 i_AlikeSteps_L1 i_AlikeSteps_L2 r0 stripes0 wide1 need2 steps3 k11 :=
  (congrArg (fun g => g.1 ((r0, ()), (stripes0, wide1, need2, steps3, (), k11, ()), ((), (), (), (), ()))) (FnCx.L_eq i_AlikeSteps_ts)).trans (by kernel_rfl)
theorem i_AlikeSteps_u2 (r0 : List (Int)) (stripes0 : ByteArray) (wide1 : Int) (need2 : Int) (steps3 : Int) (k11 : Int) (alike12 : Bool) (s38 : Int) (s39 : Int) : i_AlikeSteps_L2 r0 stripes0 wide1 need2 steps3 k11 alike12 s38 s39 = i_AlikeSteps_t2 i_AlikeSteps_L1 i_AlikeSteps_L2 r0 stripes0 wide1 need2 steps3 k11 alike12 s38 s39 :=
  (congrArg (fun g => g.2.1 ((r0, ()), (stripes0, wide1, need2, steps3, (), k11, alike12, s38, s39, ()), ((), (), (), (), ()))) (FnCx.L_eq i_AlikeSteps_ts)).trans (by kernel_rfl)
noncomputable def i_AlikeSteps (stripes0 : ByteArray) (wide1 : Int) (need2 : Int) (steps3 : Int) : Option (List Int × Bool) := i_AlikeSteps_t0 i_AlikeSteps_L1 i_AlikeSteps_L2 stripes0 wide1 need2 steps3
theorem i_AlikeSteps_e (stripes0 : ByteArray) (wide1 : Int) (need2 : Int) (steps3 : Int) : c_i_AlikeSteps.start c_i_AlikeSteps.L (stripes0, wide1, need2, steps3, ()) = i_AlikeSteps stripes0 wide1 need2 steps3 := by kernel_rfl
noncomputable def F_i_AlikeSteps : Ins c_i_AlikeSteps.ins → Option (List Int × Bool) := fun x => i_AlikeSteps x.1 x.2.1 x.2.2.1 x.2.2.2.1
noncomputable def S_i_AlikeSteps : FSpec := mkF c_i_AlikeSteps.env.pre c_i_AlikeSteps.ins c_i_AlikeSteps.out c_i_AlikeSteps.inj F_i_AlikeSteps
theorem h_i_AlikeSteps : Cert Try.prog 28 S_i_AlikeSteps := FnCx.certF (c := c_i_AlikeSteps) F_i_AlikeSteps (tyOk _ _ _) (spOk ⟨h_i_IsStriped, fun _ _ _ => trivial, ⟨h_i_isNeed, fun _ _ _ => trivial, ⟨h_i_isCover, fun _ _ _ => trivial, ⟨h_i_colour, fun _ _ _ => trivial, trivial⟩⟩⟩⟩) (fun _ _ _ _ _ hs => noDr_ok) Try.func28 rfl rfl Try.ntmps28 (by kernel_rfl) rfl rfl (fun _ => rfl) i_AlikeSteps_ts i_AlikeSteps_hs (fun x t hb ht => by
  obtain ⟨stripes0, wide1, need2, steps3, _⟩ := x
  exact (i_AlikeSteps_e stripes0 wide1 need2 steps3).trans ht)
/-! spec.cpOf -/
noncomputable def c_s_cpOf : FnCx := { env := env 37 [] [], body := bodyOf Try.f174, res := [.tmp 8], ins := [.ro kstring, .ro kint, .ro kint, .ro kint], out := [(kstring, true)], T := ByteArray, fin := fun r => r.1.1, inj := fun t => ((t, ()), ((), (), (), (), ())), pts := [([.inLoop [1, 1, 0, 1, 0, 0], .inBlock 0, .code [1, 1, 1]], Shape.mk [] [(0, Ss.one (Cs.sc kstring)), (1, Ss.one (Cs.sc kint)), (2, Ss.one (Cs.sc kint)), (3, Ss.one (Cs.sc kint)), (9, Ss.one (Cs.sc kstring)), (10, Ss.one (Cs.sc kint))] [Ss.one (Cs.any), Ss.one (Cs.any), Ss.one (Cs.any), Ss.one (Cs.any)])], fuel := 400, dr := noDr }
noncomputable def s_cpOf_t1 (g1 : ByteArray → Int → Int → Int → ByteArray → Int → Option (ByteArray)) (stripes0 : ByteArray) (wide1 : Int) (need2 : Int) (step3 : Int) (out9 : ByteArray) (place10 : Int) : Option ByteArray :=
  bif decide (place10 < IntKind.wrap IntKind.i64 (step3 * need2)) then
    bif wide1 == 0 then none
    else
      bif (↑(ByteArray.size stripes0) : Int) == 0 then none
      else
        bif decide (0 ≤ IntKind.wrap IntKind.i64 (Int.tmod (IntKind.wrap IntKind.i64 (Int.tdiv place10 wide1)) (↑(ByteArray.size stripes0) : Int) + 1)) then
          bif
              decide
                (IntKind.wrap IntKind.i64 (Int.tmod (IntKind.wrap IntKind.i64 (Int.tdiv place10 wide1)) (↑(ByteArray.size stripes0) : Int) + 1) ≤
                  (↑(ByteArray.size stripes0) : Int)) then
            bif decide (0 ≤ Int.tmod (IntKind.wrap IntKind.i64 (Int.tdiv place10 wide1)) (↑(ByteArray.size stripes0) : Int)) then
              bif
                  decide
                    (Int.tmod (IntKind.wrap IntKind.i64 (Int.tdiv place10 wide1)) (↑(ByteArray.size stripes0) : Int) ≤
                      IntKind.wrap IntKind.i64 (Int.tmod (IntKind.wrap IntKind.i64 (Int.tdiv place10 wide1)) (↑(ByteArray.size stripes0) : Int) + 1)) then
                bif
                    Nat.ble
                      (ByteArray.size out9 +
                        ByteArray.size
                          (ByteArray.extract stripes0
                            (Int.toNat (Int.tmod (IntKind.wrap IntKind.i64 (Int.tdiv place10 wide1)) (↑(ByteArray.size stripes0) : Int)))
                            (Int.toNat
                              (IntKind.wrap IntKind.i64 (Int.tmod (IntKind.wrap IntKind.i64 (Int.tdiv place10 wide1)) (↑(ByteArray.size stripes0) : Int) + 1)))))
                      9223372036854775807 then
                  g1 stripes0 wide1 need2 step3
                    (out9 ++
                      ByteArray.extract stripes0 (Int.toNat (Int.tmod (IntKind.wrap IntKind.i64 (Int.tdiv place10 wide1)) (↑(ByteArray.size stripes0) : Int)))
                        (Int.toNat
                          (IntKind.wrap IntKind.i64 (Int.tmod (IntKind.wrap IntKind.i64 (Int.tdiv place10 wide1)) (↑(ByteArray.size stripes0) : Int) + 1))))
                    (IntKind.wrap IntKind.i64 (place10 + 1))
                else none
              else none
            else none
          else none
        else none
  else some out9
noncomputable def s_cpOf_t0 (g1 : ByteArray → Int → Int → Int → ByteArray → Int → Option (ByteArray)) (stripes0 : ByteArray) (wide1 : Int) (need2 : Int) (step3 : Int) : Option ByteArray :=
  g1 stripes0 wide1 need2 step3 { data := #[] } (IntKind.wrap IntKind.i64 (IntKind.wrap IntKind.i64 (step3 - 1) * need2))
theorem s_cpOf_ts : Tails c_s_cpOf.pts c_s_cpOf.round :=
  ⟨fun s => by
    obtain ⟨_, ⟨stripes0, wide1, need2, step3, out9, place10, _⟩, ⟨_, _, _, _, _⟩⟩ := s
    refine Tail.eq (Y := fun g => s_cpOf_t1 (fun stripes0 wide1 need2 step3 out9 place10 => g.1 ((), (stripes0, wide1, need2, step3, out9, place10, ()), ((), (), (), (), ()))) stripes0 wide1 need2 step3 out9 place10) ?_ (fun g => by kernel_rfl)
    simp only [s_cpOf_t1]; repeat (first | apply Tail.cond | (apply Tail.bind; intro _) | exact Tail.here _ | exact Tail.there (Tail.here _) | exact Tail.there (Tail.there (Tail.here _)) | exact Tail.there (Tail.there (Tail.there (Tail.here _))) | exact Tail.there (Tail.there (Tail.there (Tail.there (Tail.here _)))) | exact Tail.there (Tail.there (Tail.there (Tail.there (Tail.there (Tail.here _))))) | exact Tail.const _), trivial⟩
theorem s_cpOf_hs : ∀ x, Tail c_s_cpOf.pts (fun g => c_s_cpOf.start g x) := fun x => by
    obtain ⟨stripes0, wide1, need2, step3, _⟩ := x
    refine Tail.eq (Y := fun g => s_cpOf_t0 (fun stripes0 wide1 need2 step3 out9 place10 => g.1 ((), (stripes0, wide1, need2, step3, out9, place10, ()), ((), (), (), (), ()))) stripes0 wide1 need2 step3) ?_ (fun g => by kernel_rfl)
    simp only [s_cpOf_t0]; repeat (first | apply Tail.cond | (apply Tail.bind; intro _) | exact Tail.here _ | exact Tail.there (Tail.here _) | exact Tail.there (Tail.there (Tail.here _)) | exact Tail.there (Tail.there (Tail.there (Tail.here _))) | exact Tail.there (Tail.there (Tail.there (Tail.there (Tail.here _)))) | exact Tail.there (Tail.there (Tail.there (Tail.there (Tail.there (Tail.here _))))) | exact Tail.const _)
noncomputable def s_cpOf_L1 (stripes0 : ByteArray) (wide1 : Int) (need2 : Int) (step3 : Int) (out9 : ByteArray) (place10 : Int) : Option ByteArray := c_s_cpOf.L.1 ((), (stripes0, wide1, need2, step3, out9, place10, ()), ((), (), (), (), ()))
theorem s_cpOf_u1 (stripes0 : ByteArray) (wide1 : Int) (need2 : Int) (step3 : Int) (out9 : ByteArray) (place10 : Int) : s_cpOf_L1 stripes0 wide1 need2 step3 out9 place10 = s_cpOf_t1 s_cpOf_L1 stripes0 wide1 need2 step3 out9 place10 :=
  (congrArg (fun g => g.1 ((), (stripes0, wide1, need2, step3, out9, place10, ()), ((), (), (), (), ()))) (FnCx.L_eq s_cpOf_ts)).trans (by kernel_rfl)
noncomputable def s_cpOf (stripes0 : ByteArray) (wide1 : Int) (need2 : Int) (step3 : Int) : Option ByteArray := s_cpOf_t0 s_cpOf_L1 stripes0 wide1 need2 step3
theorem s_cpOf_e (stripes0 : ByteArray) (wide1 : Int) (need2 : Int) (step3 : Int) : c_s_cpOf.start c_s_cpOf.L (stripes0, wide1, need2, step3, ()) = s_cpOf stripes0 wide1 need2 step3 := by kernel_rfl
noncomputable def F_s_cpOf : Ins c_s_cpOf.ins → Option ByteArray := fun x => s_cpOf x.1 x.2.1 x.2.2.1 x.2.2.2.1
noncomputable def S_s_cpOf : FSpec := mkF c_s_cpOf.env.pre c_s_cpOf.ins c_s_cpOf.out c_s_cpOf.inj F_s_cpOf
theorem h_s_cpOf : Cert Try.prog 174 S_s_cpOf := FnCx.certF (c := c_s_cpOf) F_s_cpOf (tyOk _ _ _) (spOk trivial) (fun _ _ _ _ _ hs => noDr_ok) Try.func174 rfl rfl Try.ntmps174 (by kernel_rfl) rfl rfl (fun _ => rfl) s_cpOf_ts s_cpOf_hs (fun x t hb ht => by
  obtain ⟨stripes0, wide1, need2, step3, _⟩ := x
  exact (s_cpOf_e stripes0 wide1 need2 step3).trans ht)
/-! spec.AlikeSteps -/
noncomputable def c_s_AlikeSteps : FnCx := { env := env 44 [(172, S_s_cpWide), (168, S_s_cpSteps), (174, S_s_cpOf)] [], body := bodyOf Try.f29, res := [.tmp 8, .tmp 9], ins := [.ro kstring, .ro kint, .ro kint, .ro kint], out := [(kSint, true), (kbool, true)], T := List Int × Bool, fin := fun r => (r.1.1, r.1.2.1), inj := fun t => ((t.1, t.2, ()), ((), (), (), (), ())), pts := [([.inLoop [1, 1, 1, 1, 0, 1, 0, 0], .inBlock 0, .code [1, 1, 1, 1, 1]], Shape.mk [Bs.row kint 3 true] [(0, Ss.one (Cs.sc kstring)), (1, Ss.one (Cs.sc kint)), (2, Ss.one (Cs.sc kint)), (3, Ss.one (Cs.sc kint)), (10, Ss.one (Cs.sl 0)), (11, Ss.one (Cs.sc kstring)), (12, Ss.one (Cs.sc kint))] [Ss.one (Cs.any), Ss.one (Cs.any), Ss.one (Cs.any), Ss.one (Cs.any)])], fuel := 400, dr := noDr }
noncomputable def s_AlikeSteps_t1 (g1 : List (Int) → ByteArray → Int → Int → Int → ByteArray → Int → Option (List Int × Bool)) (r0 : List (Int)) (stripes0 : ByteArray) (wide1 : Int) (need2 : Int) (steps3 : Int) (first11 : ByteArray) (step12 : Int) : Option (List Int × Bool) :=
  bif decide (step12 ≤ steps3) then
    Option.bind (s_cpOf stripes0 wide1 need2 step12) fun r =>
      bif ByteArray.toList r == ByteArray.toList first11 then
        bif Nat.ble (List.length r0 + 1) 4294967296 then g1 (r0 ++ [step12]) stripes0 wide1 need2 steps3 first11 (IntKind.wrap IntKind.i64 (step12 + 1)) else none
      else g1 r0 stripes0 wide1 need2 steps3 first11 (IntKind.wrap IntKind.i64 (step12 + 1))
  else some (r0, true)
noncomputable def s_AlikeSteps_t0 (g1 : List (Int) → ByteArray → Int → Int → Int → ByteArray → Int → Option (List Int × Bool)) (stripes0 : ByteArray) (wide1 : Int) (need2 : Int) (steps3 : Int) : Option (List Int × Bool) :=
  Option.bind (s_cpWide stripes0 wide1) fun r =>
    bif !r then some ([], false)
    else bif !s_cpSteps steps3 need2 then some ([], false) else Option.bind (s_cpOf stripes0 wide1 need2 1) fun r => g1 [] stripes0 wide1 need2 steps3 r 2
theorem s_AlikeSteps_ts : Tails c_s_AlikeSteps.pts c_s_AlikeSteps.round :=
  ⟨fun s => by
    obtain ⟨⟨r0, _⟩, ⟨stripes0, wide1, need2, steps3, _, first11, step12, _⟩, ⟨_, _, _, _, _⟩⟩ := s
    refine Tail.eq (Y := fun g => s_AlikeSteps_t1 (fun r0 stripes0 wide1 need2 steps3 first11 step12 => g.1 ((r0, ()), (stripes0, wide1, need2, steps3, (), first11, step12, ()), ((), (), (), (), ()))) r0 stripes0 wide1 need2 steps3 first11 step12) ?_ (fun g => by kernel_rfl)
    simp only [s_AlikeSteps_t1]; repeat (first | apply Tail.cond | (apply Tail.bind; intro _) | exact Tail.here _ | exact Tail.there (Tail.here _) | exact Tail.there (Tail.there (Tail.here _)) | exact Tail.there (Tail.there (Tail.there (Tail.here _))) | exact Tail.there (Tail.there (Tail.there (Tail.there (Tail.here _)))) | exact Tail.there (Tail.there (Tail.there (Tail.there (Tail.there (Tail.here _))))) | exact Tail.const _), trivial⟩
theorem s_AlikeSteps_hs : ∀ x, Tail c_s_AlikeSteps.pts (fun g => c_s_AlikeSteps.start g x) := fun x => by
    obtain ⟨stripes0, wide1, need2, steps3, _⟩ := x
    refine Tail.eq (Y := fun g => s_AlikeSteps_t0 (fun r0 stripes0 wide1 need2 steps3 first11 step12 => g.1 ((r0, ()), (stripes0, wide1, need2, steps3, (), first11, step12, ()), ((), (), (), (), ()))) stripes0 wide1 need2 steps3) ?_ (fun g => by kernel_rfl)
    simp only [s_AlikeSteps_t0]; repeat (first | apply Tail.cond | (apply Tail.bind; intro _) | exact Tail.here _ | exact Tail.there (Tail.here _) | exact Tail.there (Tail.there (Tail.here _)) | exact Tail.there (Tail.there (Tail.there (Tail.here _))) | exact Tail.there (Tail.there (Tail.there (Tail.there (Tail.here _)))) | exact Tail.there (Tail.there (Tail.there (Tail.there (Tail.there (Tail.here _))))) | exact Tail.const _)
noncomputable def s_AlikeSteps_L1 (r0 : List (Int)) (stripes0 : ByteArray) (wide1 : Int) (need2 : Int) (steps3 : Int) (first11 : ByteArray) (step12 : Int) : Option (List Int × Bool) := c_s_AlikeSteps.L.1 ((r0, ()), (stripes0, wide1, need2, steps3, (), first11, step12, ()), ((), (), (), (), ()))
theorem s_AlikeSteps_u1 (r0 : List (Int)) (stripes0 : ByteArray) (wide1 : Int) (need2 : Int) (steps3 : Int) (first11 : ByteArray) (step12 : Int) : s_AlikeSteps_L1 r0 stripes0 wide1 need2 steps3 first11 step12 = s_AlikeSteps_t1 s_AlikeSteps_L1 r0 stripes0 wide1 need2 steps3 first11 step12 :=
  (congrArg (fun g => g.1 ((r0, ()), (stripes0, wide1, need2, steps3, (), first11, step12, ()), ((), (), (), (), ()))) (FnCx.L_eq s_AlikeSteps_ts)).trans (by kernel_rfl)
noncomputable def s_AlikeSteps (stripes0 : ByteArray) (wide1 : Int) (need2 : Int) (steps3 : Int) : Option (List Int × Bool) := s_AlikeSteps_t0 s_AlikeSteps_L1 stripes0 wide1 need2 steps3
theorem s_AlikeSteps_e (stripes0 : ByteArray) (wide1 : Int) (need2 : Int) (steps3 : Int) : c_s_AlikeSteps.start c_s_AlikeSteps.L (stripes0, wide1, need2, steps3, ()) = s_AlikeSteps stripes0 wide1 need2 steps3 := by kernel_rfl
noncomputable def F_s_AlikeSteps : Ins c_s_AlikeSteps.ins → Option (List Int × Bool) := fun x => s_AlikeSteps x.1 x.2.1 x.2.2.1 x.2.2.2.1
noncomputable def S_s_AlikeSteps : FSpec := mkF c_s_AlikeSteps.env.pre c_s_AlikeSteps.ins c_s_AlikeSteps.out c_s_AlikeSteps.inj F_s_AlikeSteps
theorem h_s_AlikeSteps : Cert Try.prog 29 S_s_AlikeSteps := FnCx.certF (c := c_s_AlikeSteps) F_s_AlikeSteps (tyOk _ _ _) (spOk ⟨h_s_cpWide, fun _ _ _ => trivial, ⟨h_s_cpSteps, fun _ _ _ => trivial, ⟨h_s_cpOf, fun _ _ _ => trivial, trivial⟩⟩⟩) (fun _ _ _ _ _ hs => noDr_ok) Try.func29 rfl rfl Try.ntmps29 (by kernel_rfl) rfl rfl (fun _ => rfl) s_AlikeSteps_ts s_AlikeSteps_hs (fun x t hb ht => by
  obtain ⟨stripes0, wide1, need2, steps3, _⟩ := x
  exact (s_AlikeSteps_e stripes0 wide1 need2 steps3).trans ht)
/-! impl.ColourAt -/
noncomputable def c_i_ColourAt : FnCx := { env := env 27 [(32, S_i_IsStriped), (166, S_i_isNeed), (175, S_i_within), (173, S_i_colour)] [], body := bodyOf Try.f30, res := [.tmp 6, .tmp 7], ins := [.ro kstring, .ro kint, .ro kint], out := [(kstring, true), (kbool, true)], T := ByteArray × Bool, fin := fun r => (r.1.1, r.1.2.1), inj := fun t => ((t.1, t.2, ()), ((), (), (), ())), pts := [], fuel := 400, dr := noDr }
noncomputable def i_ColourAt (stripes0 : ByteArray) (wide1 : Int) (place2 : Int) : Option (ByteArray × Bool) :=
  Option.bind (i_IsStriped stripes0) fun r =>
    bif !r then some ({ data := #[] }, false)
    else
      bif !i_isNeed wide1 then some ({ data := #[] }, false)
      else
        bif !i_within place2 0 2000 then some ({ data := #[] }, false)
        else Option.bind (i_colour stripes0 wide1 place2) fun r => some (Utf8.encode (IntKind.wrap IntKind.i32 r), true)
theorem i_ColourAt_e (stripes0 : ByteArray) (wide1 : Int) (place2 : Int) : c_i_ColourAt.start c_i_ColourAt.L (stripes0, wide1, place2, ()) = i_ColourAt stripes0 wide1 place2 := by kernel_rfl
noncomputable def F_i_ColourAt : Ins c_i_ColourAt.ins → Option (ByteArray × Bool) := fun x => i_ColourAt x.1 x.2.1 x.2.2.1
noncomputable def S_i_ColourAt : FSpec := mkF c_i_ColourAt.env.pre c_i_ColourAt.ins c_i_ColourAt.out c_i_ColourAt.inj F_i_ColourAt
theorem h_i_ColourAt : Cert Try.prog 30 S_i_ColourAt := FnCx.certF (c := c_i_ColourAt) F_i_ColourAt (tyOk _ _ _) (spOk ⟨h_i_IsStriped, fun _ _ _ => trivial, ⟨h_i_isNeed, fun _ _ _ => trivial, ⟨h_i_within, fun _ _ _ => trivial, ⟨h_i_colour, fun _ _ _ => trivial, trivial⟩⟩⟩⟩) (fun _ _ _ _ _ hs => noDr_ok) Try.func30 rfl rfl Try.ntmps30 (by kernel_rfl) rfl rfl (fun _ => rfl) trivial (fun x => .inl ⟨c_i_ColourAt.start () x, fun _ => rfl⟩) (fun x t hb ht => by
  obtain ⟨stripes0, wide1, place2, _⟩ := x
  exact (i_ColourAt_e stripes0 wide1 place2).trans ht)
/-! spec.ColourAt -/
noncomputable def c_s_ColourAt : FnCx := { env := env 29 [(172, S_s_cpWide), (176, S_s_l1In)] [], body := bodyOf Try.f31, res := [.tmp 6, .tmp 7], ins := [.ro kstring, .ro kint, .ro kint], out := [(kstring, true), (kbool, true)], T := ByteArray × Bool, fin := fun r => (r.1.1, r.1.2.1), inj := fun t => ((t.1, t.2, ()), ((), (), (), ())), pts := [], fuel := 400, dr := noDr }
noncomputable def s_ColourAt (stripes0 : ByteArray) (wide1 : Int) (place2 : Int) : Option (ByteArray × Bool) :=
  Option.bind (s_cpWide stripes0 wide1) fun r =>
    bif !r then some ({ data := #[] }, false)
    else
      bif !s_l1In place2 0 2000 then some ({ data := #[] }, false)
      else
        bif wide1 == 0 then none
        else
          bif (↑(ByteArray.size stripes0) : Int) == 0 then none
          else
            bif decide (0 ≤ IntKind.wrap IntKind.i64 (Int.tmod (IntKind.wrap IntKind.i64 (Int.tdiv place2 wide1)) (↑(ByteArray.size stripes0) : Int) + 1)) then
              bif
                  decide
                    (IntKind.wrap IntKind.i64 (Int.tmod (IntKind.wrap IntKind.i64 (Int.tdiv place2 wide1)) (↑(ByteArray.size stripes0) : Int) + 1) ≤
                      (↑(ByteArray.size stripes0) : Int)) then
                bif decide (0 ≤ Int.tmod (IntKind.wrap IntKind.i64 (Int.tdiv place2 wide1)) (↑(ByteArray.size stripes0) : Int)) then
                  bif
                      decide
                        (Int.tmod (IntKind.wrap IntKind.i64 (Int.tdiv place2 wide1)) (↑(ByteArray.size stripes0) : Int) ≤
                          IntKind.wrap IntKind.i64 (Int.tmod (IntKind.wrap IntKind.i64 (Int.tdiv place2 wide1)) (↑(ByteArray.size stripes0) : Int) + 1)) then
                    some
                      (ByteArray.extract stripes0 (Int.toNat (Int.tmod (IntKind.wrap IntKind.i64 (Int.tdiv place2 wide1)) (↑(ByteArray.size stripes0) : Int)))
                          (Int.toNat
                            (IntKind.wrap IntKind.i64 (Int.tmod (IntKind.wrap IntKind.i64 (Int.tdiv place2 wide1)) (↑(ByteArray.size stripes0) : Int) + 1))),
                        true)
                  else none
                else none
              else none
            else none
theorem s_ColourAt_e (stripes0 : ByteArray) (wide1 : Int) (place2 : Int) : c_s_ColourAt.start c_s_ColourAt.L (stripes0, wide1, place2, ()) = s_ColourAt stripes0 wide1 place2 := by kernel_rfl
noncomputable def F_s_ColourAt : Ins c_s_ColourAt.ins → Option (ByteArray × Bool) := fun x => s_ColourAt x.1 x.2.1 x.2.2.1
noncomputable def S_s_ColourAt : FSpec := mkF c_s_ColourAt.env.pre c_s_ColourAt.ins c_s_ColourAt.out c_s_ColourAt.inj F_s_ColourAt
theorem h_s_ColourAt : Cert Try.prog 31 S_s_ColourAt := FnCx.certF (c := c_s_ColourAt) F_s_ColourAt (tyOk _ _ _) (spOk ⟨h_s_cpWide, fun _ _ _ => trivial, ⟨h_s_l1In, fun _ _ _ => trivial, trivial⟩⟩) (fun _ _ _ _ _ hs => noDr_ok) Try.func31 rfl rfl Try.ntmps31 (by kernel_rfl) rfl rfl (fun _ => rfl) trivial (fun x => .inl ⟨c_s_ColourAt.start () x, fun _ => rfl⟩) (fun x t hb ht => by
  obtain ⟨stripes0, wide1, place2, _⟩ := x
  exact (s_ColourAt_e stripes0 wide1 place2).trans ht)
/-! spec.IsStriped -/
noncomputable def c_s_IsStriped : FnCx := { env := env 5 [(177, S_s_cpStripes)] [], body := bodyOf Try.f33, res := [.tmp 2], ins := [.ro kstring], out := [(kbool, true)], T := Bool, fin := fun r => r.1.1, inj := fun t => ((t, ()), ((), ())), pts := [], fuel := 400, dr := noDr }
noncomputable def s_IsStriped (stripes0 : ByteArray) : Option Bool :=
  Option.bind (s_cpStripes stripes0) fun r => some r
theorem s_IsStriped_e (stripes0 : ByteArray) : c_s_IsStriped.start c_s_IsStriped.L (stripes0, ()) = s_IsStriped stripes0 := by kernel_rfl
noncomputable def F_s_IsStriped : Ins c_s_IsStriped.ins → Option Bool := fun x => s_IsStriped x.1
noncomputable def S_s_IsStriped : FSpec := mkF c_s_IsStriped.env.pre c_s_IsStriped.ins c_s_IsStriped.out c_s_IsStriped.inj F_s_IsStriped
theorem h_s_IsStriped : Cert Try.prog 33 S_s_IsStriped := FnCx.certF (c := c_s_IsStriped) F_s_IsStriped (tyOk _ _ _) (spOk ⟨h_s_cpStripes, fun _ _ _ => trivial, trivial⟩) (fun _ _ _ _ _ hs => noDr_ok) Try.func33 rfl rfl Try.ntmps33 (by kernel_rfl) rfl rfl (fun _ => rfl) trivial (fun x => .inl ⟨c_s_IsStriped.start () x, fun _ => rfl⟩) (fun x t hb ht => by
  obtain ⟨stripes0, _⟩ := x
  exact (s_IsStriped_e stripes0).trans ht)
/-! laws.FnCarpetsLookOfAll -/
noncomputable def c_w_FnCarpetsLookOfAll : FnCx := { env := env 569 [(15, S_i_PatternStarts), (16, S_s_PatternStarts), (17, S_i_WholeStarts), (18, S_s_WholeStarts), (19, S_i_PatternPeriod), (20, S_s_PatternPeriod), (21, S_i_WithPattern), (22, S_s_WithPattern), (23, S_w_wSame), (24, S_w_wRises), (25, S_w_wHas), (26, S_i_ColoursOfStep), (27, S_s_ColoursOfStep), (28, S_i_AlikeSteps), (29, S_s_AlikeSteps), (30, S_i_ColourAt), (31, S_s_ColourAt), (32, S_i_IsStriped), (33, S_s_IsStriped)] [], body := bodyOf Try.f3, res := [.tmp 20], ins := [.ro kint, .ro kint, .ro kint, .ro kstring, .ro kint, .ro kint, .ro kint, .ro kstring, .ro kint, .ro kint], out := [(kbool, true)], T := Bool, fin := fun r => r.1.1, inj := fun t => ((t, ()), ((), (), (), (), (), (), (), (), (), (), ())), pts := [([.code [1, 1, 1, 1, 1, 1, 1, 1, 1, 1, 1]], Shape.mk [Bs.row kint 3 true, Bs.row kint 3 true] [(0, Ss.one (Cs.sc kint)), (1, Ss.one (Cs.sc kint)), (2, Ss.one (Cs.sc kint)), (3, Ss.one (Cs.sc kstring)), (4, Ss.one (Cs.sc kint)), (5, Ss.one (Cs.sc kint)), (6, Ss.one (Cs.sc kint)), (7, Ss.one (Cs.sc kstring)), (8, Ss.one (Cs.sc kint)), (9, Ss.one (Cs.sc kint)), (21, Ss.one (Cs.sl 0)), (22, Ss.one (Cs.sc kbool)), (25, Ss.one (Cs.sl 1)), (29, Ss.one (Cs.sc kint)), (30, Ss.one (Cs.sc kbool)), (33, Ss.one (Cs.sc kint)), (34, Ss.one (Cs.sc kint))] [Ss.one (Cs.any), Ss.one (Cs.any), Ss.one (Cs.any), Ss.one (Cs.any), Ss.one (Cs.any), Ss.one (Cs.any), Ss.one (Cs.any), Ss.one (Cs.any), Ss.one (Cs.any), Ss.one (Cs.any)]), ([.code [1, 1, 1, 1, 1, 1, 1, 1, 1, 1, 1, 1]], Shape.mk [] [(1, Ss.one (Cs.sc kint)), (2, Ss.one (Cs.sc kint)), (3, Ss.one (Cs.sc kstring)), (4, Ss.one (Cs.sc kint)), (5, Ss.one (Cs.sc kint)), (6, Ss.one (Cs.sc kint)), (7, Ss.one (Cs.sc kstring)), (8, Ss.one (Cs.sc kint)), (9, Ss.one (Cs.sc kint)), (29, Ss.one (Cs.sc kint)), (30, Ss.one (Cs.sc kbool)), (33, Ss.one (Cs.sc kint)), (34, Ss.one (Cs.sc kint))] [Ss.one (Cs.any), Ss.one (Cs.any), Ss.one (Cs.any), Ss.one (Cs.any), Ss.one (Cs.any), Ss.one (Cs.any), Ss.one (Cs.any), Ss.one (Cs.any), Ss.one (Cs.any), Ss.one (Cs.any)]), ([.code [1, 1, 1, 1, 1, 1, 1, 1, 1, 1, 1, 1, 1]], Shape.mk [] [(3, Ss.one (Cs.sc kstring)), (4, Ss.one (Cs.sc kint)), (5, Ss.one (Cs.sc kint)), (6, Ss.one (Cs.sc kint)), (7, Ss.one (Cs.sc kstring)), (8, Ss.one (Cs.sc kint)), (9, Ss.one (Cs.sc kint))] [Ss.one (Cs.any), Ss.one (Cs.any), Ss.one (Cs.any), Ss.one (Cs.any), Ss.one (Cs.any), Ss.one (Cs.any), Ss.one (Cs.any), Ss.one (Cs.any), Ss.one (Cs.any), Ss.one (Cs.any)]), ([.code [1, 1, 1, 1, 1, 1, 1, 1, 1, 1, 1, 1, 1, 1, 1, 1, 1, 1, 1, 1]], Shape.mk [Bs.row kint 3 true] [(3, Ss.one (Cs.sc kstring)), (4, Ss.one (Cs.sc kint)), (5, Ss.one (Cs.sc kint)), (6, Ss.one (Cs.sc kint)), (7, Ss.one (Cs.sc kstring)), (8, Ss.one (Cs.sc kint)), (9, Ss.one (Cs.sc kint)), (41, Ss.one (Cs.sc kstring)), (42, Ss.one (Cs.sc kbool)), (45, Ss.one (Cs.sl 0)), (49, Ss.one (Cs.sc kstring)), (50, Ss.one (Cs.sc kbool))] [Ss.one (Cs.any), Ss.one (Cs.any), Ss.one (Cs.any), Ss.one (Cs.any), Ss.one (Cs.any), Ss.one (Cs.any), Ss.one (Cs.any), Ss.one (Cs.any), Ss.one (Cs.any), Ss.one (Cs.any)]), ([.code [1, 1, 1, 1, 1, 1, 1, 1, 1, 1, 1, 1, 1, 1, 1, 1, 1, 1, 1, 1, 1]], Shape.mk [] [(7, Ss.one (Cs.sc kstring)), (8, Ss.one (Cs.sc kint)), (9, Ss.one (Cs.sc kint)), (49, Ss.one (Cs.sc kstring)), (50, Ss.one (Cs.sc kbool))] [Ss.one (Cs.any), Ss.one (Cs.any), Ss.one (Cs.any), Ss.one (Cs.any), Ss.one (Cs.any), Ss.one (Cs.any), Ss.one (Cs.any), Ss.one (Cs.any), Ss.one (Cs.any), Ss.one (Cs.any)]), ([.code [1, 1, 1, 1, 1, 1, 1, 1, 1, 1, 1, 1, 1, 1, 1, 1, 1, 1, 1, 1, 1, 1]], Shape.mk [] [] [Ss.one (Cs.any), Ss.one (Cs.any), Ss.one (Cs.any), Ss.one (Cs.any), Ss.one (Cs.any), Ss.one (Cs.any), Ss.one (Cs.any), Ss.one (Cs.any), Ss.one (Cs.any), Ss.one (Cs.any)]), ([.inLoop [1, 1, 1, 1, 1, 1, 1, 1, 1, 1, 1, 0, 1, 0, 1, 1, 0, 0], .inBlock 0, .code [1, 1, 1, 1, 1, 1, 1, 1, 1, 1, 1, 1]], Shape.mk [Bs.row kint 3 true, Bs.row kint 3 true] [(1, Ss.one (Cs.sc kint)), (2, Ss.one (Cs.sc kint)), (3, Ss.one (Cs.sc kstring)), (4, Ss.one (Cs.sc kint)), (5, Ss.one (Cs.sc kint)), (6, Ss.one (Cs.sc kint)), (7, Ss.one (Cs.sc kstring)), (8, Ss.one (Cs.sc kint)), (9, Ss.one (Cs.sc kint)), (21, Ss.one (Cs.sl 0)), (25, Ss.one (Cs.sl 1)), (29, Ss.one (Cs.sc kint)), (30, Ss.one (Cs.sc kbool)), (33, Ss.one (Cs.sc kint)), (34, Ss.one (Cs.sc kint)), (208, Ss.one (Cs.sl 0)), (209, Ss.one (Cs.sc kint)), (210, Ss.one (Cs.sc kint))] [Ss.one (Cs.any), Ss.one (Cs.any), Ss.one (Cs.any), Ss.one (Cs.any), Ss.one (Cs.any), Ss.one (Cs.any), Ss.one (Cs.any), Ss.one (Cs.any), Ss.one (Cs.any), Ss.one (Cs.any)]), ([.inLoop [1, 1, 1, 1, 1, 1, 1, 1, 1, 1, 1, 1, 1, 1, 1, 1, 1, 1, 1, 1, 0, 1, 0, 1, 1, 1, 0, 1, 1, 1, 1, 0, 0], .inBlock 2, .code [1, 1, 1, 1, 1, 1, 1, 1, 1, 1, 1, 1, 1, 1, 1, 1, 1, 1, 1, 1, 1]], Shape.mk [Bs.row kint 3 true] [(3, Ss.one (Cs.sc kstring)), (4, Ss.one (Cs.sc kint)), (5, Ss.one (Cs.sc kint)), (6, Ss.one (Cs.sc kint)), (7, Ss.one (Cs.sc kstring)), (8, Ss.one (Cs.sc kint)), (9, Ss.one (Cs.sc kint)), (49, Ss.one (Cs.sc kstring)), (50, Ss.one (Cs.sc kbool)), (483, Ss.one (Cs.sl 0)), (484, Ss.one (Cs.sc kint)), (485, Ss.one (Cs.sc kint))] [Ss.one (Cs.any), Ss.one (Cs.any), Ss.one (Cs.any), Ss.one (Cs.any), Ss.one (Cs.any), Ss.one (Cs.any), Ss.one (Cs.any), Ss.one (Cs.any), Ss.one (Cs.any), Ss.one (Cs.any)]), ([.inLoop [1, 1, 1, 1, 1, 1, 1, 1, 1, 1, 1, 1, 1, 1, 1, 1, 1, 1, 1, 1, 0, 1, 0, 1, 1, 1, 0, 1, 1, 1, 1, 0, 0, 1, 1, 0, 0, 1, 1, 1, 0, 0], .inBlock 4, .inBlock 3, .code [1, 1, 1, 1, 1, 1, 1, 1, 1, 1, 1, 1, 1, 1, 1, 1, 1, 1, 1, 1, 0, 1, 0, 1, 1, 1, 0, 1, 1, 1, 1, 0, 0, 1, 1, 1], .inLoop [1, 1, 1, 1, 1, 1, 1, 1, 1, 1, 1, 1, 1, 1, 1, 1, 1, 1, 1, 1, 0, 1, 0, 1, 1, 1, 0, 1, 1, 1, 1, 0, 0], .inBlock 2, .code [1, 1, 1, 1, 1, 1, 1, 1, 1, 1, 1, 1, 1, 1, 1, 1, 1, 1, 1, 1, 1]], Shape.mk [Bs.row kint 3 true] [(3, Ss.one (Cs.sc kstring)), (4, Ss.one (Cs.sc kint)), (5, Ss.one (Cs.sc kint)), (6, Ss.one (Cs.sc kint)), (7, Ss.one (Cs.sc kstring)), (8, Ss.one (Cs.sc kint)), (9, Ss.one (Cs.sc kint)), (49, Ss.one (Cs.sc kstring)), (50, Ss.one (Cs.sc kbool)), (60, Ss.one (Cs.sc kint)), (61, Ss.one (Cs.sc kint)), (483, Ss.one (Cs.sl 0)), (484, Ss.one (Cs.sc kint)), (485, Ss.one (Cs.sc kint))] [Ss.one (Cs.any), Ss.one (Cs.any), Ss.one (Cs.any), Ss.one (Cs.any), Ss.one (Cs.any), Ss.one (Cs.any), Ss.one (Cs.any), Ss.one (Cs.any), Ss.one (Cs.any), Ss.one (Cs.any)])], fuel := 400, dr := evDr (env 569 [(15, S_i_PatternStarts), (16, S_s_PatternStarts), (17, S_i_WholeStarts), (18, S_s_WholeStarts), (19, S_i_PatternPeriod), (20, S_s_PatternPeriod), (21, S_i_WithPattern), (22, S_s_WithPattern), (23, S_w_wSame), (24, S_w_wRises), (25, S_w_wHas), (26, S_i_ColoursOfStep), (27, S_s_ColoursOfStep), (28, S_i_AlikeSteps), (29, S_s_AlikeSteps), (30, S_i_ColourAt), (31, S_s_ColourAt), (32, S_i_IsStriped), (33, S_s_IsStriped)] []) }
noncomputable def w_FnCarpetsLookOfAll_t1 (g1 : List (Int) → List (Int) → Int → Int → Int → ByteArray → Int → Int → Int → ByteArray → Int → Int → Bool → Int → Bool → Int → Int → Option (Bool)) (g2 : Int → Int → ByteArray → Int → Int → Int → ByteArray → Int → Int → Int → Bool → Int → Int → Option (Bool)) (g3 : ByteArray → Int → Int → Int → ByteArray → Int → Int → Option (Bool)) (g4 : List (Int) → ByteArray → Int → Int → Int → ByteArray → Int → Int → ByteArray → Bool → ByteArray → Bool → Option (Bool)) (g5 : ByteArray → Int → Int → ByteArray → Bool → Option (Bool)) (g6 : Option (Bool)) (g7 : List (Int) → List (Int) → Int → Int → ByteArray → Int → Int → Int → ByteArray → Int → Int → Int → Bool → Int → Int → Int → Int → Option (Bool)) (g8 : List (Int) → ByteArray → Int → Int → Int → ByteArray → Int → Int → ByteArray → Bool → Int → Int → Option (Bool)) (g9 : List (Int) → ByteArray → Int → Int → Int → ByteArray → Int → Int → ByteArray → Bool → Int → Int → Int → Int → Option (Bool)) (r0 : List (Int)) (r1 : List (Int)) (steps0 : Int) (need1 : Int) (pattern2 : Int) (stripes3 : ByteArray) (wide4 : Int) (each5 : Int) (step6 : Int) (text7 : ByteArray) (w8 : Int) (place9 : Int) (ok22 : Bool) (period29 : Int) (three30 : Bool) (whole33 : Int) (cut34 : Int) : Option Bool :=
  bif ok22 then
    bif (↑(List.length r0) : Int) != steps0 then some false
    else
      Option.bind (w_wRises r1) fun r =>
        bif !r then some false
        else
          bif decide (0 < (↑(List.length r0) : Int)) then
            bif rdk kint r0 0 != 0 then some false
            else g7 r0 r1 need1 pattern2 stripes3 wide4 each5 step6 text7 w8 place9 period29 three30 whole33 cut34 (↑(List.length r0) : Int) 0
          else none
  else g2 need1 pattern2 stripes3 wide4 each5 step6 text7 w8 place9 period29 three30 whole33 cut34
noncomputable def w_FnCarpetsLookOfAll_t2 (g1 : List (Int) → List (Int) → Int → Int → Int → ByteArray → Int → Int → Int → ByteArray → Int → Int → Bool → Int → Bool → Int → Int → Option (Bool)) (g2 : Int → Int → ByteArray → Int → Int → Int → ByteArray → Int → Int → Int → Bool → Int → Int → Option (Bool)) (g3 : ByteArray → Int → Int → Int → ByteArray → Int → Int → Option (Bool)) (g4 : List (Int) → ByteArray → Int → Int → Int → ByteArray → Int → Int → ByteArray → Bool → ByteArray → Bool → Option (Bool)) (g5 : ByteArray → Int → Int → ByteArray → Bool → Option (Bool)) (g6 : Option (Bool)) (g7 : List (Int) → List (Int) → Int → Int → ByteArray → Int → Int → Int → ByteArray → Int → Int → Int → Bool → Int → Int → Int → Int → Option (Bool)) (g8 : List (Int) → ByteArray → Int → Int → Int → ByteArray → Int → Int → ByteArray → Bool → Int → Int → Option (Bool)) (g9 : List (Int) → ByteArray → Int → Int → Int → ByteArray → Int → Int → ByteArray → Bool → Int → Int → Int → Int → Option (Bool)) (need1 : Int) (pattern2 : Int) (stripes3 : ByteArray) (wide4 : Int) (each5 : Int) (step6 : Int) (text7 : ByteArray) (w8 : Int) (place9 : Int) (period29 : Int) (three30 : Bool) (whole33 : Int) (cut34 : Int) : Option Bool :=
  bif three30 then
    bif decide (period29 < 1) then some false
    else
      bif decide (period29 > pattern2) then some false
      else
        bif pattern2 == 0 then none
        else
          bif Int.tmod (IntKind.wrap IntKind.i64 (period29 * need1)) pattern2 != 0 then some false
          else
            bif decide (whole33 < need1) then some false
            else
              bif cut34 != IntKind.wrap IntKind.i64 (whole33 - need1) then some false
              else
                bif decide (cut34 < 0) then some false
                else
                  bif decide (cut34 ≥ pattern2) then some false
                  else bif pattern2 == 0 then none else bif Int.tmod whole33 pattern2 != 0 then some false else g3 stripes3 wide4 each5 step6 text7 w8 place9
  else g3 stripes3 wide4 each5 step6 text7 w8 place9
noncomputable def w_FnCarpetsLookOfAll_t3 (g1 : List (Int) → List (Int) → Int → Int → Int → ByteArray → Int → Int → Int → ByteArray → Int → Int → Bool → Int → Bool → Int → Int → Option (Bool)) (g2 : Int → Int → ByteArray → Int → Int → Int → ByteArray → Int → Int → Int → Bool → Int → Int → Option (Bool)) (g3 : ByteArray → Int → Int → Int → ByteArray → Int → Int → Option (Bool)) (g4 : List (Int) → ByteArray → Int → Int → Int → ByteArray → Int → Int → ByteArray → Bool → ByteArray → Bool → Option (Bool)) (g5 : ByteArray → Int → Int → ByteArray → Bool → Option (Bool)) (g6 : Option (Bool)) (g7 : List (Int) → List (Int) → Int → Int → ByteArray → Int → Int → Int → ByteArray → Int → Int → Int → Bool → Int → Int → Int → Int → Option (Bool)) (g8 : List (Int) → ByteArray → Int → Int → Int → ByteArray → Int → Int → ByteArray → Bool → Int → Int → Option (Bool)) (g9 : List (Int) → ByteArray → Int → Int → Int → ByteArray → Int → Int → ByteArray → Bool → Int → Int → Int → Int → Option (Bool)) (stripes3 : ByteArray) (wide4 : Int) (each5 : Int) (step6 : Int) (text7 : ByteArray) (w8 : Int) (place9 : Int) : Option Bool :=
  Option.bind (i_ColoursOfStep stripes3 wide4 each5 step6) fun r =>
    Option.bind (s_ColoursOfStep stripes3 wide4 each5 step6) fun r_1 =>
      Option.bind (i_AlikeSteps stripes3 wide4 each5 step6) fun r_2 =>
        Option.bind (s_AlikeSteps stripes3 wide4 each5 step6) fun r_3 =>
          Option.bind (i_ColourAt text7 w8 place9) fun r_4 =>
            Option.bind (s_ColourAt text7 w8 place9) fun r_5 =>
              bif !Prod.snd r == Prod.snd r_1 then some false
              else
                bif !ByteArray.toList (Prod.fst r) == ByteArray.toList (Prod.fst r_1) then some false
                else
                  bif !Prod.snd r_2 == Prod.snd r_3 then some false
                  else
                    Option.bind (w_wSame (Prod.fst r_2) (Prod.fst r_3)) fun r_6 =>
                      bif !r_6 then some false
                      else
                        bif !Prod.snd r_4 == Prod.snd r_5 then some false
                        else
                          bif !ByteArray.toList (Prod.fst r_4) == ByteArray.toList (Prod.fst r_5) then some false
                          else
                            bif !Prod.snd r_2 == Prod.snd r then some false
                            else
                              bif Prod.snd r then
                                Option.bind (i_IsStriped stripes3) fun r_7 =>
                                  bif !r_7 then some false
                                  else
                                    Option.bind (i_IsStriped stripes3) fun r_8 =>
                                      Option.bind (s_IsStriped stripes3) fun r_9 =>
                                        bif !r_8 == r_9 then some false
                                        else
                                          Option.bind (i_IsStriped text7) fun r_10 =>
                                            Option.bind (s_IsStriped text7) fun r_11 =>
                                              bif !r_10 == r_11 then some false
                                              else
                                                g4 (Prod.fst r_2) stripes3 wide4 each5 step6 text7 w8 place9 (Prod.fst r) (Prod.snd r) (Prod.fst r_4)
                                                  (Prod.snd r_4)
                              else
                                Option.bind (i_IsStriped stripes3) fun r_7 =>
                                  Option.bind (s_IsStriped stripes3) fun r_8 =>
                                    bif !r_7 == r_8 then some false
                                    else
                                      Option.bind (i_IsStriped text7) fun r_9 =>
                                        Option.bind (s_IsStriped text7) fun r_10 =>
                                          bif !r_9 == r_10 then some false
                                          else
                                            g4 (Prod.fst r_2) stripes3 wide4 each5 step6 text7 w8 place9 (Prod.fst r) (Prod.snd r) (Prod.fst r_4) (Prod.snd r_4)
noncomputable def w_FnCarpetsLookOfAll_t4 (g1 : List (Int) → List (Int) → Int → Int → Int → ByteArray → Int → Int → Int → ByteArray → Int → Int → Bool → Int → Bool → Int → Int → Option (Bool)) (g2 : Int → Int → ByteArray → Int → Int → Int → ByteArray → Int → Int → Int → Bool → Int → Int → Option (Bool)) (g3 : ByteArray → Int → Int → Int → ByteArray → Int → Int → Option (Bool)) (g4 : List (Int) → ByteArray → Int → Int → Int → ByteArray → Int → Int → ByteArray → Bool → ByteArray → Bool → Option (Bool)) (g5 : ByteArray → Int → Int → ByteArray → Bool → Option (Bool)) (g6 : Option (Bool)) (g7 : List (Int) → List (Int) → Int → Int → ByteArray → Int → Int → Int → ByteArray → Int → Int → Int → Bool → Int → Int → Int → Int → Option (Bool)) (g8 : List (Int) → ByteArray → Int → Int → Int → ByteArray → Int → Int → ByteArray → Bool → Int → Int → Option (Bool)) (g9 : List (Int) → ByteArray → Int → Int → Int → ByteArray → Int → Int → ByteArray → Bool → Int → Int → Int → Int → Option (Bool)) (r0 : List (Int)) (stripes3 : ByteArray) (wide4 : Int) (each5 : Int) (step6 : Int) (text7 : ByteArray) (w8 : Int) (place9 : Int) (colours41 : ByteArray) (seven42 : Bool) (colour49 : ByteArray) (eleven50 : Bool) : Option Bool :=
  bif seven42 then
    bif wide4 == 0 then none
    else
      bif wide4 == 0 then none
      else
        bif
            (↑(ByteArray.size colours41) : Int) !=
              IntKind.wrap IntKind.i64
                (IntKind.wrap IntKind.i64
                    (IntKind.wrap IntKind.i64 (Int.tdiv (IntKind.wrap IntKind.i64 (IntKind.wrap IntKind.i64 (step6 * each5) - 1)) wide4) -
                      IntKind.wrap IntKind.i64 (Int.tdiv (IntKind.wrap IntKind.i64 (IntKind.wrap IntKind.i64 (step6 - 1) * each5)) wide4)) +
                  1) then
          some false
        else
          Option.bind (w_wRises r0) fun r =>
            bif !r then some false
            else
              bif decide (IntKind.wrap IntKind.i64 (IntKind.wrap IntKind.i64 (step6 * each5) - 1) ≤ 2000) then
                Option.bind (i_ColourAt stripes3 wide4 (IntKind.wrap IntKind.i64 (IntKind.wrap IntKind.i64 (step6 - 1) * each5))) fun r =>
                  Option.bind (i_ColourAt stripes3 wide4 (IntKind.wrap IntKind.i64 (IntKind.wrap IntKind.i64 (step6 * each5) - 1))) fun r_1 =>
                    bif !Prod.snd r then some false
                    else
                      bif decide (1 ≤ (↑(ByteArray.size colours41) : Int)) then
                        bif !ByteArray.toList (ByteArray.extract colours41 (Int.toNat 0) (Int.toNat 1)) == ByteArray.toList (Prod.fst r) then some false
                        else
                          bif !Prod.snd r_1 then some false
                          else
                            bif decide (0 ≤ IntKind.wrap IntKind.i64 ((↑(ByteArray.size colours41) : Int) - 1)) then
                              bif decide (IntKind.wrap IntKind.i64 ((↑(ByteArray.size colours41) : Int) - 1) ≤ (↑(ByteArray.size colours41) : Int)) then
                                bif
                                    !ByteArray.toList
                                          (ByteArray.extract colours41 (Int.toNat (IntKind.wrap IntKind.i64 ((↑(ByteArray.size colours41) : Int) - 1)))
                                            (Int.toNat (↑(ByteArray.size colours41) : Int))) ==
                                        ByteArray.toList (Prod.fst r_1) then
                                  some false
                                else g8 r0 stripes3 wide4 each5 step6 text7 w8 place9 colour49 eleven50 (↑(List.length r0) : Int) 0
                              else none
                            else none
                      else none
              else g5 text7 w8 place9 colour49 eleven50
  else g5 text7 w8 place9 colour49 eleven50
noncomputable def w_FnCarpetsLookOfAll_t5 (g1 : List (Int) → List (Int) → Int → Int → Int → ByteArray → Int → Int → Int → ByteArray → Int → Int → Bool → Int → Bool → Int → Int → Option (Bool)) (g2 : Int → Int → ByteArray → Int → Int → Int → ByteArray → Int → Int → Int → Bool → Int → Int → Option (Bool)) (g3 : ByteArray → Int → Int → Int → ByteArray → Int → Int → Option (Bool)) (g4 : List (Int) → ByteArray → Int → Int → Int → ByteArray → Int → Int → ByteArray → Bool → ByteArray → Bool → Option (Bool)) (g5 : ByteArray → Int → Int → ByteArray → Bool → Option (Bool)) (g6 : Option (Bool)) (g7 : List (Int) → List (Int) → Int → Int → ByteArray → Int → Int → Int → ByteArray → Int → Int → Int → Bool → Int → Int → Int → Int → Option (Bool)) (g8 : List (Int) → ByteArray → Int → Int → Int → ByteArray → Int → Int → ByteArray → Bool → Int → Int → Option (Bool)) (g9 : List (Int) → ByteArray → Int → Int → Int → ByteArray → Int → Int → ByteArray → Bool → Int → Int → Int → Int → Option (Bool)) (text7 : ByteArray) (w8 : Int) (place9 : Int) (colour49 : ByteArray) (eleven50 : Bool) : Option Bool :=
  bif eleven50 then
    bif IntKind.wrap IntKind.i64 (w8 * (↑(ByteArray.size text7) : Int)) == 0 then none
    else
      Option.bind (i_ColourAt text7 w8 (Int.tmod place9 (IntKind.wrap IntKind.i64 (w8 * (↑(ByteArray.size text7) : Int))))) fun r =>
        bif (↑(ByteArray.size colour49) : Int) != 1 then some false
        else bif !Prod.snd r then some false else bif !ByteArray.toList (Prod.fst r) == ByteArray.toList colour49 then some false else g6
  else g6
noncomputable def w_FnCarpetsLookOfAll_t6 (g1 : List (Int) → List (Int) → Int → Int → Int → ByteArray → Int → Int → Int → ByteArray → Int → Int → Bool → Int → Bool → Int → Int → Option (Bool)) (g2 : Int → Int → ByteArray → Int → Int → Int → ByteArray → Int → Int → Int → Bool → Int → Int → Option (Bool)) (g3 : ByteArray → Int → Int → Int → ByteArray → Int → Int → Option (Bool)) (g4 : List (Int) → ByteArray → Int → Int → Int → ByteArray → Int → Int → ByteArray → Bool → ByteArray → Bool → Option (Bool)) (g5 : ByteArray → Int → Int → ByteArray → Bool → Option (Bool)) (g6 : Option (Bool)) (g7 : List (Int) → List (Int) → Int → Int → ByteArray → Int → Int → Int → ByteArray → Int → Int → Int → Bool → Int → Int → Int → Int → Option (Bool)) (g8 : List (Int) → ByteArray → Int → Int → Int → ByteArray → Int → Int → ByteArray → Bool → Int → Int → Option (Bool)) (g9 : List (Int) → ByteArray → Int → Int → Int → ByteArray → Int → Int → ByteArray → Bool → Int → Int → Int → Int → Option (Bool))  : Option Bool :=
  some true
noncomputable def w_FnCarpetsLookOfAll_t7 (g1 : List (Int) → List (Int) → Int → Int → Int → ByteArray → Int → Int → Int → ByteArray → Int → Int → Bool → Int → Bool → Int → Int → Option (Bool)) (g2 : Int → Int → ByteArray → Int → Int → Int → ByteArray → Int → Int → Int → Bool → Int → Int → Option (Bool)) (g3 : ByteArray → Int → Int → Int → ByteArray → Int → Int → Option (Bool)) (g4 : List (Int) → ByteArray → Int → Int → Int → ByteArray → Int → Int → ByteArray → Bool → ByteArray → Bool → Option (Bool)) (g5 : ByteArray → Int → Int → ByteArray → Bool → Option (Bool)) (g6 : Option (Bool)) (g7 : List (Int) → List (Int) → Int → Int → ByteArray → Int → Int → Int → ByteArray → Int → Int → Int → Bool → Int → Int → Int → Int → Option (Bool)) (g8 : List (Int) → ByteArray → Int → Int → Int → ByteArray → Int → Int → ByteArray → Bool → Int → Int → Option (Bool)) (g9 : List (Int) → ByteArray → Int → Int → Int → ByteArray → Int → Int → ByteArray → Bool → Int → Int → Int → Int → Option (Bool)) (r0 : List (Int)) (r1 : List (Int)) (need1 : Int) (pattern2 : Int) (stripes3 : ByteArray) (wide4 : Int) (each5 : Int) (step6 : Int) (text7 : ByteArray) (w8 : Int) (place9 : Int) (period29 : Int) (three30 : Bool) (whole33 : Int) (cut34 : Int) (s209 : Int) (s210 : Int) : Option Bool :=
  bif decide (s210 < s209) then
    bif decide (0 ≤ s210) then
      bif decide (s210 < (↑(List.length r0) : Int)) then
        bif decide (rdk kint r0 s210 < 0) then some false
        else
          bif decide (rdk kint r0 s210 ≥ pattern2) then some false
          else
            bif decide (s210 > 0) then
              bif decide (0 ≤ IntKind.wrap IntKind.i64 (s210 - 1)) then
                bif decide (IntKind.wrap IntKind.i64 (s210 - 1) < (↑(List.length r0) : Int)) then
                  bif pattern2 == 0 then none
                  else
                    bif
                        Int.tmod
                            (IntKind.wrap IntKind.i64
                              (IntKind.wrap IntKind.i64 (rdk kint r0 s210 - rdk kint r0 (IntKind.wrap IntKind.i64 (s210 - 1))) -
                                need1))
                            pattern2 !=
                          0 then
                      some false
                    else
                      Option.bind (w_wHas r1 (IntKind.wrap IntKind.i64 (s210 + 1))) fun r =>
                        bif !r == (rdk kint r0 s210 == 0) then some false
                        else
                          bif period29 == 0 then none
                          else
                            bif !(rdk kint r0 s210 == 0) == (Int.tmod s210 period29 == 0) then some false
                            else
                              bif decide (s210 ≥ period29) then
                                bif decide (0 ≤ IntKind.wrap IntKind.i64 (s210 - period29)) then
                                  bif decide (IntKind.wrap IntKind.i64 (s210 - period29) < (↑(List.length r0) : Int)) then
                                    bif rdk kint r0 s210 != rdk kint r0 (IntKind.wrap IntKind.i64 (s210 - period29)) then
                                      some false
                                    else
                                      g7 r0 r1 need1 pattern2 stripes3 wide4 each5 step6 text7 w8 place9 period29 three30 whole33 cut34 s209
                                        (IntKind.wrap IntKind.i64 (s210 + 1))
                                  else none
                                else none
                              else
                                g7 r0 r1 need1 pattern2 stripes3 wide4 each5 step6 text7 w8 place9 period29 three30 whole33 cut34 s209
                                  (IntKind.wrap IntKind.i64 (s210 + 1))
                else none
              else none
            else
              Option.bind (w_wHas r1 (IntKind.wrap IntKind.i64 (s210 + 1))) fun r =>
                bif !r == (rdk kint r0 s210 == 0) then some false
                else
                  bif period29 == 0 then none
                  else
                    bif !(rdk kint r0 s210 == 0) == (Int.tmod s210 period29 == 0) then some false
                    else
                      bif decide (s210 ≥ period29) then
                        bif decide (0 ≤ IntKind.wrap IntKind.i64 (s210 - period29)) then
                          bif decide (IntKind.wrap IntKind.i64 (s210 - period29) < (↑(List.length r0) : Int)) then
                            bif rdk kint r0 s210 != rdk kint r0 (IntKind.wrap IntKind.i64 (s210 - period29)) then some false
                            else
                              g7 r0 r1 need1 pattern2 stripes3 wide4 each5 step6 text7 w8 place9 period29 three30 whole33 cut34 s209
                                (IntKind.wrap IntKind.i64 (s210 + 1))
                          else none
                        else none
                      else
                        g7 r0 r1 need1 pattern2 stripes3 wide4 each5 step6 text7 w8 place9 period29 three30 whole33 cut34 s209
                          (IntKind.wrap IntKind.i64 (s210 + 1))
      else none
    else none
  else g2 need1 pattern2 stripes3 wide4 each5 step6 text7 w8 place9 period29 three30 whole33 cut34
noncomputable def w_FnCarpetsLookOfAll_t8 (g1 : List (Int) → List (Int) → Int → Int → Int → ByteArray → Int → Int → Int → ByteArray → Int → Int → Bool → Int → Bool → Int → Int → Option (Bool)) (g2 : Int → Int → ByteArray → Int → Int → Int → ByteArray → Int → Int → Int → Bool → Int → Int → Option (Bool)) (g3 : ByteArray → Int → Int → Int → ByteArray → Int → Int → Option (Bool)) (g4 : List (Int) → ByteArray → Int → Int → Int → ByteArray → Int → Int → ByteArray → Bool → ByteArray → Bool → Option (Bool)) (g5 : ByteArray → Int → Int → ByteArray → Bool → Option (Bool)) (g6 : Option (Bool)) (g7 : List (Int) → List (Int) → Int → Int → ByteArray → Int → Int → Int → ByteArray → Int → Int → Int → Bool → Int → Int → Int → Int → Option (Bool)) (g8 : List (Int) → ByteArray → Int → Int → Int → ByteArray → Int → Int → ByteArray → Bool → Int → Int → Option (Bool)) (g9 : List (Int) → ByteArray → Int → Int → Int → ByteArray → Int → Int → ByteArray → Bool → Int → Int → Int → Int → Option (Bool)) (r0 : List (Int)) (stripes3 : ByteArray) (wide4 : Int) (each5 : Int) (step6 : Int) (text7 : ByteArray) (w8 : Int) (place9 : Int) (colour49 : ByteArray) (eleven50 : Bool) (s484 : Int) (s485 : Int) : Option Bool :=
  bif decide (s485 < s484) then
    bif decide (0 ≤ s485) then
      bif decide (s485 < (↑(List.length r0) : Int)) then
        bif decide (rdk kint r0 s485 < 2) then
          bif decide (rdk kint r0 s485 ≥ 2) then some (decide (rdk kint r0 s485 ≤ step6)) else some false
        else
          bif decide (rdk kint r0 s485 > step6) then
            bif decide (rdk kint r0 s485 ≥ 2) then some (decide (rdk kint r0 s485 ≤ step6)) else some false
          else
            bif decide (s485 > 20) then
              bif decide (rdk kint r0 s485 ≥ 2) then some (decide (rdk kint r0 s485 ≤ step6)) else some false
            else g9 r0 stripes3 wide4 each5 step6 text7 w8 place9 colour49 eleven50 (rdk kint r0 s485) 0 s484 s485
      else none
    else none
  else g5 text7 w8 place9 colour49 eleven50
noncomputable def w_FnCarpetsLookOfAll_t9 (g1 : List (Int) → List (Int) → Int → Int → Int → ByteArray → Int → Int → Int → ByteArray → Int → Int → Bool → Int → Bool → Int → Int → Option (Bool)) (g2 : Int → Int → ByteArray → Int → Int → Int → ByteArray → Int → Int → Int → Bool → Int → Int → Option (Bool)) (g3 : ByteArray → Int → Int → Int → ByteArray → Int → Int → Option (Bool)) (g4 : List (Int) → ByteArray → Int → Int → Int → ByteArray → Int → Int → ByteArray → Bool → ByteArray → Bool → Option (Bool)) (g5 : ByteArray → Int → Int → ByteArray → Bool → Option (Bool)) (g6 : Option (Bool)) (g7 : List (Int) → List (Int) → Int → Int → ByteArray → Int → Int → Int → ByteArray → Int → Int → Int → Bool → Int → Int → Int → Int → Option (Bool)) (g8 : List (Int) → ByteArray → Int → Int → Int → ByteArray → Int → Int → ByteArray → Bool → Int → Int → Option (Bool)) (g9 : List (Int) → ByteArray → Int → Int → Int → ByteArray → Int → Int → ByteArray → Bool → Int → Int → Int → Int → Option (Bool)) (r0 : List (Int)) (stripes3 : ByteArray) (wide4 : Int) (each5 : Int) (step6 : Int) (text7 : ByteArray) (w8 : Int) (place9 : Int) (colour49 : ByteArray) (eleven50 : Bool) (k60 : Int) (n61 : Int) (s484 : Int) (s485 : Int) : Option Bool :=
  bif decide (n61 < each5) then
    Option.bind (i_ColourAt stripes3 wide4 n61) fun r =>
      Option.bind (i_ColourAt stripes3 wide4 (IntKind.wrap IntKind.i64 (IntKind.wrap IntKind.i64 (IntKind.wrap IntKind.i64 (k60 - 1) * each5) + n61))) fun r_1 =>
        bif !Prod.snd r then some false
        else
          bif !Prod.snd r_1 then some false
          else
            bif !ByteArray.toList (Prod.fst r) == ByteArray.toList (Prod.fst r_1) then some false
            else g9 r0 stripes3 wide4 each5 step6 text7 w8 place9 colour49 eleven50 k60 (IntKind.wrap IntKind.i64 (n61 + 1)) s484 s485
  else g8 r0 stripes3 wide4 each5 step6 text7 w8 place9 colour49 eleven50 s484 (IntKind.wrap IntKind.i64 (s485 + 1))
noncomputable def w_FnCarpetsLookOfAll_t0 (g1 : List (Int) → List (Int) → Int → Int → Int → ByteArray → Int → Int → Int → ByteArray → Int → Int → Bool → Int → Bool → Int → Int → Option (Bool)) (g2 : Int → Int → ByteArray → Int → Int → Int → ByteArray → Int → Int → Int → Bool → Int → Int → Option (Bool)) (g3 : ByteArray → Int → Int → Int → ByteArray → Int → Int → Option (Bool)) (g4 : List (Int) → ByteArray → Int → Int → Int → ByteArray → Int → Int → ByteArray → Bool → ByteArray → Bool → Option (Bool)) (g5 : ByteArray → Int → Int → ByteArray → Bool → Option (Bool)) (g6 : Option (Bool)) (g7 : List (Int) → List (Int) → Int → Int → ByteArray → Int → Int → Int → ByteArray → Int → Int → Int → Bool → Int → Int → Int → Int → Option (Bool)) (g8 : List (Int) → ByteArray → Int → Int → Int → ByteArray → Int → Int → ByteArray → Bool → Int → Int → Option (Bool)) (g9 : List (Int) → ByteArray → Int → Int → Int → ByteArray → Int → Int → ByteArray → Bool → Int → Int → Int → Int → Option (Bool)) (steps0 : Int) (need1 : Int) (pattern2 : Int) (stripes3 : ByteArray) (wide4 : Int) (each5 : Int) (step6 : Int) (text7 : ByteArray) (w8 : Int) (place9 : Int) : Option Bool :=
  bif decide ((↑(ByteArray.size stripes3) : Int) > 1048576) then some true
  else
    bif decide ((↑(ByteArray.size text7) : Int) > 1048576) then some true
    else
      Option.bind (i_PatternStarts steps0 need1 pattern2) fun r =>
        Option.bind (s_PatternStarts steps0 need1 pattern2) fun r_1 =>
          Option.bind (i_WholeStarts steps0 need1 pattern2) fun r_2 =>
            Option.bind (s_WholeStarts steps0 need1 pattern2) fun r_3 =>
              Option.bind (i_PatternPeriod need1 pattern2) fun r_4 =>
                Option.bind (s_PatternPeriod need1 pattern2) fun r_5 =>
                  Option.bind (i_WithPattern need1 pattern2) fun r_6 =>
                    Option.bind (s_WithPattern need1 pattern2) fun r_7 =>
                      bif !Prod.snd r == Prod.snd r_1 then some false
                      else
                        Option.bind (w_wSame (Prod.fst r) (Prod.fst r_1)) fun r_8 =>
                          bif !r_8 then some false
                          else
                            bif !Prod.snd r_2 == Prod.snd r_3 then some false
                            else
                              Option.bind (w_wSame (Prod.fst r_2) (Prod.fst r_3)) fun r_9 =>
                                bif !r_9 then some false
                                else
                                  bif !Prod.snd r_4 == Prod.snd r_5 then some false
                                  else
                                    bif Prod.fst r_4 != Prod.fst r_5 then some false
                                    else
                                      bif !Prod.snd (Prod.snd r_6) == Prod.snd (Prod.snd r_7) then some false
                                      else
                                        bif Prod.fst r_6 != Prod.fst r_7 then some false
                                        else
                                          bif Prod.fst (Prod.snd r_6) != Prod.fst (Prod.snd r_7) then some false
                                          else
                                            bif !Prod.snd r_2 == Prod.snd r then some false
                                            else
                                              bif !Prod.snd (Prod.snd r_6) == Prod.snd r_4 then some false
                                              else
                                                bif Prod.snd r then
                                                  bif !Prod.snd r_4 then some false
                                                  else
                                                    g1 (Prod.fst r) (Prod.fst r_2) steps0 need1 pattern2 stripes3 wide4 each5 step6 text7 w8 place9 (Prod.snd r)
                                                      (Prod.fst r_4) (Prod.snd r_4) (Prod.fst r_6) (Prod.fst (Prod.snd r_6))
                                                else
                                                  g1 (Prod.fst r) (Prod.fst r_2) steps0 need1 pattern2 stripes3 wide4 each5 step6 text7 w8 place9 (Prod.snd r)
                                                    (Prod.fst r_4) (Prod.snd r_4) (Prod.fst r_6) (Prod.fst (Prod.snd r_6))
theorem w_FnCarpetsLookOfAll_ts : Tails c_w_FnCarpetsLookOfAll.pts c_w_FnCarpetsLookOfAll.round :=
  ⟨fun s => by
    obtain ⟨⟨r0, r1, _⟩, ⟨steps0, need1, pattern2, stripes3, wide4, each5, step6, text7, w8, place9, _, ok22, _, period29, three30, whole33, cut34, _⟩, ⟨_, _, _, _, _, _, _, _, _, _, _⟩⟩ := s
    refine Tail.eq (Y := fun g => w_FnCarpetsLookOfAll_t1 (fun r0 r1 steps0 need1 pattern2 stripes3 wide4 each5 step6 text7 w8 place9 ok22 period29 three30 whole33 cut34 => g.1 ((r0, r1, ()), (steps0, need1, pattern2, stripes3, wide4, each5, step6, text7, w8, place9, (), ok22, (), period29, three30, whole33, cut34, ()), ((), (), (), (), (), (), (), (), (), (), ()))) (fun need1 pattern2 stripes3 wide4 each5 step6 text7 w8 place9 period29 three30 whole33 cut34 => g.2.1 ((), (need1, pattern2, stripes3, wide4, each5, step6, text7, w8, place9, period29, three30, whole33, cut34, ()), ((), (), (), (), (), (), (), (), (), (), ()))) (fun stripes3 wide4 each5 step6 text7 w8 place9 => g.2.2.1 ((), (stripes3, wide4, each5, step6, text7, w8, place9, ()), ((), (), (), (), (), (), (), (), (), (), ()))) (fun r0 stripes3 wide4 each5 step6 text7 w8 place9 colours41 seven42 colour49 eleven50 => g.2.2.2.1 ((r0, ()), (stripes3, wide4, each5, step6, text7, w8, place9, colours41, seven42, (), colour49, eleven50, ()), ((), (), (), (), (), (), (), (), (), (), ()))) (fun text7 w8 place9 colour49 eleven50 => g.2.2.2.2.1 ((), (text7, w8, place9, colour49, eleven50, ()), ((), (), (), (), (), (), (), (), (), (), ()))) (g.2.2.2.2.2.1 ((), (), ((), (), (), (), (), (), (), (), (), (), ()))) (fun r0 r1 need1 pattern2 stripes3 wide4 each5 step6 text7 w8 place9 period29 three30 whole33 cut34 s209 s210 => g.2.2.2.2.2.2.1 ((r0, r1, ()), (need1, pattern2, stripes3, wide4, each5, step6, text7, w8, place9, (), (), period29, three30, whole33, cut34, (), s209, s210, ()), ((), (), (), (), (), (), (), (), (), (), ()))) (fun r0 stripes3 wide4 each5 step6 text7 w8 place9 colour49 eleven50 s484 s485 => g.2.2.2.2.2.2.2.1 ((r0, ()), (stripes3, wide4, each5, step6, text7, w8, place9, colour49, eleven50, (), s484, s485, ()), ((), (), (), (), (), (), (), (), (), (), ()))) (fun r0 stripes3 wide4 each5 step6 text7 w8 place9 colour49 eleven50 k60 n61 s484 s485 => g.2.2.2.2.2.2.2.2.1 ((r0, ()), (stripes3, wide4, each5, step6, text7, w8, place9, colour49, eleven50, k60, n61, (), s484, s485, ()), ((), (), (), (), (), (), (), (), (), (), ()))) r0 r1 steps0 need1 pattern2 stripes3 wide4 each5 step6 text7 w8 place9 ok22 period29 three30 whole33 cut34) ?_ (fun g => by kernel_rfl)
    simp only [w_FnCarpetsLookOfAll_t1]; repeat (first | apply Tail.cond | (apply Tail.bind; intro _) | exact Tail.here _ | exact Tail.there (Tail.here _) | exact Tail.there (Tail.there (Tail.here _)) | exact Tail.there (Tail.there (Tail.there (Tail.here _))) | exact Tail.there (Tail.there (Tail.there (Tail.there (Tail.here _)))) | exact Tail.there (Tail.there (Tail.there (Tail.there (Tail.there (Tail.here _))))) | exact Tail.there (Tail.there (Tail.there (Tail.there (Tail.there (Tail.there (Tail.here _)))))) | exact Tail.there (Tail.there (Tail.there (Tail.there (Tail.there (Tail.there (Tail.there (Tail.here _))))))) | exact Tail.there (Tail.there (Tail.there (Tail.there (Tail.there (Tail.there (Tail.there (Tail.there (Tail.here _)))))))) | exact Tail.const _),
  fun s => by
    obtain ⟨_, ⟨need1, pattern2, stripes3, wide4, each5, step6, text7, w8, place9, period29, three30, whole33, cut34, _⟩, ⟨_, _, _, _, _, _, _, _, _, _, _⟩⟩ := s
    refine Tail.eq (Y := fun g => w_FnCarpetsLookOfAll_t2 (fun r0 r1 steps0 need1 pattern2 stripes3 wide4 each5 step6 text7 w8 place9 ok22 period29 three30 whole33 cut34 => g.1 ((r0, r1, ()), (steps0, need1, pattern2, stripes3, wide4, each5, step6, text7, w8, place9, (), ok22, (), period29, three30, whole33, cut34, ()), ((), (), (), (), (), (), (), (), (), (), ()))) (fun need1 pattern2 stripes3 wide4 each5 step6 text7 w8 place9 period29 three30 whole33 cut34 => g.2.1 ((), (need1, pattern2, stripes3, wide4, each5, step6, text7, w8, place9, period29, three30, whole33, cut34, ()), ((), (), (), (), (), (), (), (), (), (), ()))) (fun stripes3 wide4 each5 step6 text7 w8 place9 => g.2.2.1 ((), (stripes3, wide4, each5, step6, text7, w8, place9, ()), ((), (), (), (), (), (), (), (), (), (), ()))) (fun r0 stripes3 wide4 each5 step6 text7 w8 place9 colours41 seven42 colour49 eleven50 => g.2.2.2.1 ((r0, ()), (stripes3, wide4, each5, step6, text7, w8, place9, colours41, seven42, (), colour49, eleven50, ()), ((), (), (), (), (), (), (), (), (), (), ()))) (fun text7 w8 place9 colour49 eleven50 => g.2.2.2.2.1 ((), (text7, w8, place9, colour49, eleven50, ()), ((), (), (), (), (), (), (), (), (), (), ()))) (g.2.2.2.2.2.1 ((), (), ((), (), (), (), (), (), (), (), (), (), ()))) (fun r0 r1 need1 pattern2 stripes3 wide4 each5 step6 text7 w8 place9 period29 three30 whole33 cut34 s209 s210 => g.2.2.2.2.2.2.1 ((r0, r1, ()), (need1, pattern2, stripes3, wide4, each5, step6, text7, w8, place9, (), (), period29, three30, whole33, cut34, (), s209, s210, ()), ((), (), (), (), (), (), (), (), (), (), ()))) (fun r0 stripes3 wide4 each5 step6 text7 w8 place9 colour49 eleven50 s484 s485 => g.2.2.2.2.2.2.2.1 ((r0, ()), (stripes3, wide4, each5, step6, text7, w8, place9, colour49, eleven50, (), s484, s485, ()), ((), (), (), (), (), (), (), (), (), (), ()))) (fun r0 stripes3 wide4 each5 step6 text7 w8 place9 colour49 eleven50 k60 n61 s484 s485 => g.2.2.2.2.2.2.2.2.1 ((r0, ()), (stripes3, wide4, each5, step6, text7, w8, place9, colour49, eleven50, k60, n61, (), s484, s485, ()), ((), (), (), (), (), (), (), (), (), (), ()))) need1 pattern2 stripes3 wide4 each5 step6 text7 w8 place9 period29 three30 whole33 cut34) ?_ (fun g => by kernel_rfl)
    simp only [w_FnCarpetsLookOfAll_t2]; repeat (first | apply Tail.cond | (apply Tail.bind; intro _) | exact Tail.here _ | exact Tail.there (Tail.here _) | exact Tail.there (Tail.there (Tail.here _)) | exact Tail.there (Tail.there (Tail.there (Tail.here _))) | exact Tail.there (Tail.there (Tail.there (Tail.there (Tail.here _)))) | exact Tail.there (Tail.there (Tail.there (Tail.there (Tail.there (Tail.here _))))) | exact Tail.there (Tail.there (Tail.there (Tail.there (Tail.there (Tail.there (Tail.here _)))))) | exact Tail.there (Tail.there (Tail.there (Tail.there (Tail.there (Tail.there (Tail.there (Tail.here _))))))) | exact Tail.there (Tail.there (Tail.there (Tail.there (Tail.there (Tail.there (Tail.there (Tail.there (Tail.here _)))))))) | exact Tail.const _),
  fun s => by
    obtain ⟨_, ⟨stripes3, wide4, each5, step6, text7, w8, place9, _⟩, ⟨_, _, _, _, _, _, _, _, _, _, _⟩⟩ := s
    refine Tail.eq (Y := fun g => w_FnCarpetsLookOfAll_t3 (fun r0 r1 steps0 need1 pattern2 stripes3 wide4 each5 step6 text7 w8 place9 ok22 period29 three30 whole33 cut34 => g.1 ((r0, r1, ()), (steps0, need1, pattern2, stripes3, wide4, each5, step6, text7, w8, place9, (), ok22, (), period29, three30, whole33, cut34, ()), ((), (), (), (), (), (), (), (), (), (), ()))) (fun need1 pattern2 stripes3 wide4 each5 step6 text7 w8 place9 period29 three30 whole33 cut34 => g.2.1 ((), (need1, pattern2, stripes3, wide4, each5, step6, text7, w8, place9, period29, three30, whole33, cut34, ()), ((), (), (), (), (), (), (), (), (), (), ()))) (fun stripes3 wide4 each5 step6 text7 w8 place9 => g.2.2.1 ((), (stripes3, wide4, each5, step6, text7, w8, place9, ()), ((), (), (), (), (), (), (), (), (), (), ()))) (fun r0 stripes3 wide4 each5 step6 text7 w8 place9 colours41 seven42 colour49 eleven50 => g.2.2.2.1 ((r0, ()), (stripes3, wide4, each5, step6, text7, w8, place9, colours41, seven42, (), colour49, eleven50, ()), ((), (), (), (), (), (), (), (), (), (), ()))) (fun text7 w8 place9 colour49 eleven50 => g.2.2.2.2.1 ((), (text7, w8, place9, colour49, eleven50, ()), ((), (), (), (), (), (), (), (), (), (), ()))) (g.2.2.2.2.2.1 ((), (), ((), (), (), (), (), (), (), (), (), (), ()))) (fun r0 r1 need1 pattern2 stripes3 wide4 each5 step6 text7 w8 place9 period29 three30 whole33 cut34 s209 s210 => g.2.2.2.2.2.2.1 ((r0, r1, ()), (need1, pattern2, stripes3, wide4, each5, step6, text7, w8, place9, (), (), period29, three30, whole33, cut34, (), s209, s210, ()), ((), (), (), (), (), (), (), (), (), (), ()))) (fun r0 stripes3 wide4 each5 step6 text7 w8 place9 colour49 eleven50 s484 s485 => g.2.2.2.2.2.2.2.1 ((r0, ()), (stripes3, wide4, each5, step6, text7, w8, place9, colour49, eleven50, (), s484, s485, ()), ((), (), (), (), (), (), (), (), (), (), ()))) (fun r0 stripes3 wide4 each5 step6 text7 w8 place9 colour49 eleven50 k60 n61 s484 s485 => g.2.2.2.2.2.2.2.2.1 ((r0, ()), (stripes3, wide4, each5, step6, text7, w8, place9, colour49, eleven50, k60, n61, (), s484, s485, ()), ((), (), (), (), (), (), (), (), (), (), ()))) stripes3 wide4 each5 step6 text7 w8 place9) ?_ (fun g => by kernel_rfl)
    simp only [w_FnCarpetsLookOfAll_t3]; repeat (first | apply Tail.cond | (apply Tail.bind; intro _) | exact Tail.here _ | exact Tail.there (Tail.here _) | exact Tail.there (Tail.there (Tail.here _)) | exact Tail.there (Tail.there (Tail.there (Tail.here _))) | exact Tail.there (Tail.there (Tail.there (Tail.there (Tail.here _)))) | exact Tail.there (Tail.there (Tail.there (Tail.there (Tail.there (Tail.here _))))) | exact Tail.there (Tail.there (Tail.there (Tail.there (Tail.there (Tail.there (Tail.here _)))))) | exact Tail.there (Tail.there (Tail.there (Tail.there (Tail.there (Tail.there (Tail.there (Tail.here _))))))) | exact Tail.there (Tail.there (Tail.there (Tail.there (Tail.there (Tail.there (Tail.there (Tail.there (Tail.here _)))))))) | exact Tail.const _),
  fun s => by
    obtain ⟨⟨r0, _⟩, ⟨stripes3, wide4, each5, step6, text7, w8, place9, colours41, seven42, _, colour49, eleven50, _⟩, ⟨_, _, _, _, _, _, _, _, _, _, _⟩⟩ := s
    refine Tail.eq (Y := fun g => w_FnCarpetsLookOfAll_t4 (fun r0 r1 steps0 need1 pattern2 stripes3 wide4 each5 step6 text7 w8 place9 ok22 period29 three30 whole33 cut34 => g.1 ((r0, r1, ()), (steps0, need1, pattern2, stripes3, wide4, each5, step6, text7, w8, place9, (), ok22, (), period29, three30, whole33, cut34, ()), ((), (), (), (), (), (), (), (), (), (), ()))) (fun need1 pattern2 stripes3 wide4 each5 step6 text7 w8 place9 period29 three30 whole33 cut34 => g.2.1 ((), (need1, pattern2, stripes3, wide4, each5, step6, text7, w8, place9, period29, three30, whole33, cut34, ()), ((), (), (), (), (), (), (), (), (), (), ()))) (fun stripes3 wide4 each5 step6 text7 w8 place9 => g.2.2.1 ((), (stripes3, wide4, each5, step6, text7, w8, place9, ()), ((), (), (), (), (), (), (), (), (), (), ()))) (fun r0 stripes3 wide4 each5 step6 text7 w8 place9 colours41 seven42 colour49 eleven50 => g.2.2.2.1 ((r0, ()), (stripes3, wide4, each5, step6, text7, w8, place9, colours41, seven42, (), colour49, eleven50, ()), ((), (), (), (), (), (), (), (), (), (), ()))) (fun text7 w8 place9 colour49 eleven50 => g.2.2.2.2.1 ((), (text7, w8, place9, colour49, eleven50, ()), ((), (), (), (), (), (), (), (), (), (), ()))) (g.2.2.2.2.2.1 ((), (), ((), (), (), (), (), (), (), (), (), (), ()))) (fun r0 r1 need1 pattern2 stripes3 wide4 each5 step6 text7 w8 place9 period29 three30 whole33 cut34 s209 s210 => g.2.2.2.2.2.2.1 ((r0, r1, ()), (need1, pattern2, stripes3, wide4, each5, step6, text7, w8, place9, (), (), period29, three30, whole33, cut34, (), s209, s210, ()), ((), (), (), (), (), (), (), (), (), (), ()))) (fun r0 stripes3 wide4 each5 step6 text7 w8 place9 colour49 eleven50 s484 s485 => g.2.2.2.2.2.2.2.1 ((r0, ()), (stripes3, wide4, each5, step6, text7, w8, place9, colour49, eleven50, (), s484, s485, ()), ((), (), (), (), (), (), (), (), (), (), ()))) (fun r0 stripes3 wide4 each5 step6 text7 w8 place9 colour49 eleven50 k60 n61 s484 s485 => g.2.2.2.2.2.2.2.2.1 ((r0, ()), (stripes3, wide4, each5, step6, text7, w8, place9, colour49, eleven50, k60, n61, (), s484, s485, ()), ((), (), (), (), (), (), (), (), (), (), ()))) r0 stripes3 wide4 each5 step6 text7 w8 place9 colours41 seven42 colour49 eleven50) ?_ (fun g => by kernel_rfl)
    simp only [w_FnCarpetsLookOfAll_t4]; repeat (first | apply Tail.cond | (apply Tail.bind; intro _) | exact Tail.here _ | exact Tail.there (Tail.here _) | exact Tail.there (Tail.there (Tail.here _)) | exact Tail.there (Tail.there (Tail.there (Tail.here _))) | exact Tail.there (Tail.there (Tail.there (Tail.there (Tail.here _)))) | exact Tail.there (Tail.there (Tail.there (Tail.there (Tail.there (Tail.here _))))) | exact Tail.there (Tail.there (Tail.there (Tail.there (Tail.there (Tail.there (Tail.here _)))))) | exact Tail.there (Tail.there (Tail.there (Tail.there (Tail.there (Tail.there (Tail.there (Tail.here _))))))) | exact Tail.there (Tail.there (Tail.there (Tail.there (Tail.there (Tail.there (Tail.there (Tail.there (Tail.here _)))))))) | exact Tail.const _),
  fun s => by
    obtain ⟨_, ⟨text7, w8, place9, colour49, eleven50, _⟩, ⟨_, _, _, _, _, _, _, _, _, _, _⟩⟩ := s
    refine Tail.eq (Y := fun g => w_FnCarpetsLookOfAll_t5 (fun r0 r1 steps0 need1 pattern2 stripes3 wide4 each5 step6 text7 w8 place9 ok22 period29 three30 whole33 cut34 => g.1 ((r0, r1, ()), (steps0, need1, pattern2, stripes3, wide4, each5, step6, text7, w8, place9, (), ok22, (), period29, three30, whole33, cut34, ()), ((), (), (), (), (), (), (), (), (), (), ()))) (fun need1 pattern2 stripes3 wide4 each5 step6 text7 w8 place9 period29 three30 whole33 cut34 => g.2.1 ((), (need1, pattern2, stripes3, wide4, each5, step6, text7, w8, place9, period29, three30, whole33, cut34, ()), ((), (), (), (), (), (), (), (), (), (), ()))) (fun stripes3 wide4 each5 step6 text7 w8 place9 => g.2.2.1 ((), (stripes3, wide4, each5, step6, text7, w8, place9, ()), ((), (), (), (), (), (), (), (), (), (), ()))) (fun r0 stripes3 wide4 each5 step6 text7 w8 place9 colours41 seven42 colour49 eleven50 => g.2.2.2.1 ((r0, ()), (stripes3, wide4, each5, step6, text7, w8, place9, colours41, seven42, (), colour49, eleven50, ()), ((), (), (), (), (), (), (), (), (), (), ()))) (fun text7 w8 place9 colour49 eleven50 => g.2.2.2.2.1 ((), (text7, w8, place9, colour49, eleven50, ()), ((), (), (), (), (), (), (), (), (), (), ()))) (g.2.2.2.2.2.1 ((), (), ((), (), (), (), (), (), (), (), (), (), ()))) (fun r0 r1 need1 pattern2 stripes3 wide4 each5 step6 text7 w8 place9 period29 three30 whole33 cut34 s209 s210 => g.2.2.2.2.2.2.1 ((r0, r1, ()), (need1, pattern2, stripes3, wide4, each5, step6, text7, w8, place9, (), (), period29, three30, whole33, cut34, (), s209, s210, ()), ((), (), (), (), (), (), (), (), (), (), ()))) (fun r0 stripes3 wide4 each5 step6 text7 w8 place9 colour49 eleven50 s484 s485 => g.2.2.2.2.2.2.2.1 ((r0, ()), (stripes3, wide4, each5, step6, text7, w8, place9, colour49, eleven50, (), s484, s485, ()), ((), (), (), (), (), (), (), (), (), (), ()))) (fun r0 stripes3 wide4 each5 step6 text7 w8 place9 colour49 eleven50 k60 n61 s484 s485 => g.2.2.2.2.2.2.2.2.1 ((r0, ()), (stripes3, wide4, each5, step6, text7, w8, place9, colour49, eleven50, k60, n61, (), s484, s485, ()), ((), (), (), (), (), (), (), (), (), (), ()))) text7 w8 place9 colour49 eleven50) ?_ (fun g => by kernel_rfl)
    simp only [w_FnCarpetsLookOfAll_t5]; repeat (first | apply Tail.cond | (apply Tail.bind; intro _) | exact Tail.here _ | exact Tail.there (Tail.here _) | exact Tail.there (Tail.there (Tail.here _)) | exact Tail.there (Tail.there (Tail.there (Tail.here _))) | exact Tail.there (Tail.there (Tail.there (Tail.there (Tail.here _)))) | exact Tail.there (Tail.there (Tail.there (Tail.there (Tail.there (Tail.here _))))) | exact Tail.there (Tail.there (Tail.there (Tail.there (Tail.there (Tail.there (Tail.here _)))))) | exact Tail.there (Tail.there (Tail.there (Tail.there (Tail.there (Tail.there (Tail.there (Tail.here _))))))) | exact Tail.there (Tail.there (Tail.there (Tail.there (Tail.there (Tail.there (Tail.there (Tail.there (Tail.here _)))))))) | exact Tail.const _),
  fun s => by
    obtain ⟨_, _, ⟨_, _, _, _, _, _, _, _, _, _, _⟩⟩ := s
    refine Tail.eq (Y := fun g => w_FnCarpetsLookOfAll_t6 (fun r0 r1 steps0 need1 pattern2 stripes3 wide4 each5 step6 text7 w8 place9 ok22 period29 three30 whole33 cut34 => g.1 ((r0, r1, ()), (steps0, need1, pattern2, stripes3, wide4, each5, step6, text7, w8, place9, (), ok22, (), period29, three30, whole33, cut34, ()), ((), (), (), (), (), (), (), (), (), (), ()))) (fun need1 pattern2 stripes3 wide4 each5 step6 text7 w8 place9 period29 three30 whole33 cut34 => g.2.1 ((), (need1, pattern2, stripes3, wide4, each5, step6, text7, w8, place9, period29, three30, whole33, cut34, ()), ((), (), (), (), (), (), (), (), (), (), ()))) (fun stripes3 wide4 each5 step6 text7 w8 place9 => g.2.2.1 ((), (stripes3, wide4, each5, step6, text7, w8, place9, ()), ((), (), (), (), (), (), (), (), (), (), ()))) (fun r0 stripes3 wide4 each5 step6 text7 w8 place9 colours41 seven42 colour49 eleven50 => g.2.2.2.1 ((r0, ()), (stripes3, wide4, each5, step6, text7, w8, place9, colours41, seven42, (), colour49, eleven50, ()), ((), (), (), (), (), (), (), (), (), (), ()))) (fun text7 w8 place9 colour49 eleven50 => g.2.2.2.2.1 ((), (text7, w8, place9, colour49, eleven50, ()), ((), (), (), (), (), (), (), (), (), (), ()))) (g.2.2.2.2.2.1 ((), (), ((), (), (), (), (), (), (), (), (), (), ()))) (fun r0 r1 need1 pattern2 stripes3 wide4 each5 step6 text7 w8 place9 period29 three30 whole33 cut34 s209 s210 => g.2.2.2.2.2.2.1 ((r0, r1, ()), (need1, pattern2, stripes3, wide4, each5, step6, text7, w8, place9, (), (), period29, three30, whole33, cut34, (), s209, s210, ()), ((), (), (), (), (), (), (), (), (), (), ()))) (fun r0 stripes3 wide4 each5 step6 text7 w8 place9 colour49 eleven50 s484 s485 => g.2.2.2.2.2.2.2.1 ((r0, ()), (stripes3, wide4, each5, step6, text7, w8, place9, colour49, eleven50, (), s484, s485, ()), ((), (), (), (), (), (), (), (), (), (), ()))) (fun r0 stripes3 wide4 each5 step6 text7 w8 place9 colour49 eleven50 k60 n61 s484 s485 => g.2.2.2.2.2.2.2.2.1 ((r0, ()), (stripes3, wide4, each5, step6, text7, w8, place9, colour49, eleven50, k60, n61, (), s484, s485, ()), ((), (), (), (), (), (), (), (), (), (), ()))) ) ?_ (fun g => by kernel_rfl)
    simp only [w_FnCarpetsLookOfAll_t6]; repeat (first | apply Tail.cond | (apply Tail.bind; intro _) | exact Tail.here _ | exact Tail.there (Tail.here _) | exact Tail.there (Tail.there (Tail.here _)) | exact Tail.there (Tail.there (Tail.there (Tail.here _))) | exact Tail.there (Tail.there (Tail.there (Tail.there (Tail.here _)))) | exact Tail.there (Tail.there (Tail.there (Tail.there (Tail.there (Tail.here _))))) | exact Tail.there (Tail.there (Tail.there (Tail.there (Tail.there (Tail.there (Tail.here _)))))) | exact Tail.there (Tail.there (Tail.there (Tail.there (Tail.there (Tail.there (Tail.there (Tail.here _))))))) | exact Tail.there (Tail.there (Tail.there (Tail.there (Tail.there (Tail.there (Tail.there (Tail.there (Tail.here _)))))))) | exact Tail.const _),
  fun s => by
    obtain ⟨⟨r0, r1, _⟩, ⟨need1, pattern2, stripes3, wide4, each5, step6, text7, w8, place9, _, _, period29, three30, whole33, cut34, _, s209, s210, _⟩, ⟨_, _, _, _, _, _, _, _, _, _, _⟩⟩ := s
    refine Tail.eq (Y := fun g => w_FnCarpetsLookOfAll_t7 (fun r0 r1 steps0 need1 pattern2 stripes3 wide4 each5 step6 text7 w8 place9 ok22 period29 three30 whole33 cut34 => g.1 ((r0, r1, ()), (steps0, need1, pattern2, stripes3, wide4, each5, step6, text7, w8, place9, (), ok22, (), period29, three30, whole33, cut34, ()), ((), (), (), (), (), (), (), (), (), (), ()))) (fun need1 pattern2 stripes3 wide4 each5 step6 text7 w8 place9 period29 three30 whole33 cut34 => g.2.1 ((), (need1, pattern2, stripes3, wide4, each5, step6, text7, w8, place9, period29, three30, whole33, cut34, ()), ((), (), (), (), (), (), (), (), (), (), ()))) (fun stripes3 wide4 each5 step6 text7 w8 place9 => g.2.2.1 ((), (stripes3, wide4, each5, step6, text7, w8, place9, ()), ((), (), (), (), (), (), (), (), (), (), ()))) (fun r0 stripes3 wide4 each5 step6 text7 w8 place9 colours41 seven42 colour49 eleven50 => g.2.2.2.1 ((r0, ()), (stripes3, wide4, each5, step6, text7, w8, place9, colours41, seven42, (), colour49, eleven50, ()), ((), (), (), (), (), (), (), (), (), (), ()))) (fun text7 w8 place9 colour49 eleven50 => g.2.2.2.2.1 ((), (text7, w8, place9, colour49, eleven50, ()), ((), (), (), (), (), (), (), (), (), (), ()))) (g.2.2.2.2.2.1 ((), (), ((), (), (), (), (), (), (), (), (), (), ()))) (fun r0 r1 need1 pattern2 stripes3 wide4 each5 step6 text7 w8 place9 period29 three30 whole33 cut34 s209 s210 => g.2.2.2.2.2.2.1 ((r0, r1, ()), (need1, pattern2, stripes3, wide4, each5, step6, text7, w8, place9, (), (), period29, three30, whole33, cut34, (), s209, s210, ()), ((), (), (), (), (), (), (), (), (), (), ()))) (fun r0 stripes3 wide4 each5 step6 text7 w8 place9 colour49 eleven50 s484 s485 => g.2.2.2.2.2.2.2.1 ((r0, ()), (stripes3, wide4, each5, step6, text7, w8, place9, colour49, eleven50, (), s484, s485, ()), ((), (), (), (), (), (), (), (), (), (), ()))) (fun r0 stripes3 wide4 each5 step6 text7 w8 place9 colour49 eleven50 k60 n61 s484 s485 => g.2.2.2.2.2.2.2.2.1 ((r0, ()), (stripes3, wide4, each5, step6, text7, w8, place9, colour49, eleven50, k60, n61, (), s484, s485, ()), ((), (), (), (), (), (), (), (), (), (), ()))) r0 r1 need1 pattern2 stripes3 wide4 each5 step6 text7 w8 place9 period29 three30 whole33 cut34 s209 s210) ?_ (fun g => by kernel_rfl)
    simp only [w_FnCarpetsLookOfAll_t7]; repeat (first | apply Tail.cond | (apply Tail.bind; intro _) | exact Tail.here _ | exact Tail.there (Tail.here _) | exact Tail.there (Tail.there (Tail.here _)) | exact Tail.there (Tail.there (Tail.there (Tail.here _))) | exact Tail.there (Tail.there (Tail.there (Tail.there (Tail.here _)))) | exact Tail.there (Tail.there (Tail.there (Tail.there (Tail.there (Tail.here _))))) | exact Tail.there (Tail.there (Tail.there (Tail.there (Tail.there (Tail.there (Tail.here _)))))) | exact Tail.there (Tail.there (Tail.there (Tail.there (Tail.there (Tail.there (Tail.there (Tail.here _))))))) | exact Tail.there (Tail.there (Tail.there (Tail.there (Tail.there (Tail.there (Tail.there (Tail.there (Tail.here _)))))))) | exact Tail.const _),
  fun s => by
    obtain ⟨⟨r0, _⟩, ⟨stripes3, wide4, each5, step6, text7, w8, place9, colour49, eleven50, _, s484, s485, _⟩, ⟨_, _, _, _, _, _, _, _, _, _, _⟩⟩ := s
    refine Tail.eq (Y := fun g => w_FnCarpetsLookOfAll_t8 (fun r0 r1 steps0 need1 pattern2 stripes3 wide4 each5 step6 text7 w8 place9 ok22 period29 three30 whole33 cut34 => g.1 ((r0, r1, ()), (steps0, need1, pattern2, stripes3, wide4, each5, step6, text7, w8, place9, (), ok22, (), period29, three30, whole33, cut34, ()), ((), (), (), (), (), (), (), (), (), (), ()))) (fun need1 pattern2 stripes3 wide4 each5 step6 text7 w8 place9 period29 three30 whole33 cut34 => g.2.1 ((), (need1, pattern2, stripes3, wide4, each5, step6, text7, w8, place9, period29, three30, whole33, cut34, ()), ((), (), (), (), (), (), (), (), (), (), ()))) (fun stripes3 wide4 each5 step6 text7 w8 place9 => g.2.2.1 ((), (stripes3, wide4, each5, step6, text7, w8, place9, ()), ((), (), (), (), (), (), (), (), (), (), ()))) (fun r0 stripes3 wide4 each5 step6 text7 w8 place9 colours41 seven42 colour49 eleven50 => g.2.2.2.1 ((r0, ()), (stripes3, wide4, each5, step6, text7, w8, place9, colours41, seven42, (), colour49, eleven50, ()), ((), (), (), (), (), (), (), (), (), (), ()))) (fun text7 w8 place9 colour49 eleven50 => g.2.2.2.2.1 ((), (text7, w8, place9, colour49, eleven50, ()), ((), (), (), (), (), (), (), (), (), (), ()))) (g.2.2.2.2.2.1 ((), (), ((), (), (), (), (), (), (), (), (), (), ()))) (fun r0 r1 need1 pattern2 stripes3 wide4 each5 step6 text7 w8 place9 period29 three30 whole33 cut34 s209 s210 => g.2.2.2.2.2.2.1 ((r0, r1, ()), (need1, pattern2, stripes3, wide4, each5, step6, text7, w8, place9, (), (), period29, three30, whole33, cut34, (), s209, s210, ()), ((), (), (), (), (), (), (), (), (), (), ()))) (fun r0 stripes3 wide4 each5 step6 text7 w8 place9 colour49 eleven50 s484 s485 => g.2.2.2.2.2.2.2.1 ((r0, ()), (stripes3, wide4, each5, step6, text7, w8, place9, colour49, eleven50, (), s484, s485, ()), ((), (), (), (), (), (), (), (), (), (), ()))) (fun r0 stripes3 wide4 each5 step6 text7 w8 place9 colour49 eleven50 k60 n61 s484 s485 => g.2.2.2.2.2.2.2.2.1 ((r0, ()), (stripes3, wide4, each5, step6, text7, w8, place9, colour49, eleven50, k60, n61, (), s484, s485, ()), ((), (), (), (), (), (), (), (), (), (), ()))) r0 stripes3 wide4 each5 step6 text7 w8 place9 colour49 eleven50 s484 s485) ?_ (fun g => by kernel_rfl)
    simp only [w_FnCarpetsLookOfAll_t8]; repeat (first | apply Tail.cond | (apply Tail.bind; intro _) | exact Tail.here _ | exact Tail.there (Tail.here _) | exact Tail.there (Tail.there (Tail.here _)) | exact Tail.there (Tail.there (Tail.there (Tail.here _))) | exact Tail.there (Tail.there (Tail.there (Tail.there (Tail.here _)))) | exact Tail.there (Tail.there (Tail.there (Tail.there (Tail.there (Tail.here _))))) | exact Tail.there (Tail.there (Tail.there (Tail.there (Tail.there (Tail.there (Tail.here _)))))) | exact Tail.there (Tail.there (Tail.there (Tail.there (Tail.there (Tail.there (Tail.there (Tail.here _))))))) | exact Tail.there (Tail.there (Tail.there (Tail.there (Tail.there (Tail.there (Tail.there (Tail.there (Tail.here _)))))))) | exact Tail.const _),
  fun s => by
    obtain ⟨⟨r0, _⟩, ⟨stripes3, wide4, each5, step6, text7, w8, place9, colour49, eleven50, k60, n61, _, s484, s485, _⟩, ⟨_, _, _, _, _, _, _, _, _, _, _⟩⟩ := s
    refine Tail.eq (Y := fun g => w_FnCarpetsLookOfAll_t9 (fun r0 r1 steps0 need1 pattern2 stripes3 wide4 each5 step6 text7 w8 place9 ok22 period29 three30 whole33 cut34 => g.1 ((r0, r1, ()), (steps0, need1, pattern2, stripes3, wide4, each5, step6, text7, w8, place9, (), ok22, (), period29, three30, whole33, cut34, ()), ((), (), (), (), (), (), (), (), (), (), ()))) (fun need1 pattern2 stripes3 wide4 each5 step6 text7 w8 place9 period29 three30 whole33 cut34 => g.2.1 ((), (need1, pattern2, stripes3, wide4, each5, step6, text7, w8, place9, period29, three30, whole33, cut34, ()), ((), (), (), (), (), (), (), (), (), (), ()))) (fun stripes3 wide4 each5 step6 text7 w8 place9 => g.2.2.1 ((), (stripes3, wide4, each5, step6, text7, w8, place9, ()), ((), (), (), (), (), (), (), (), (), (), ()))) (fun r0 stripes3 wide4 each5 step6 text7 w8 place9 colours41 seven42 colour49 eleven50 => g.2.2.2.1 ((r0, ()), (stripes3, wide4, each5, step6, text7, w8, place9, colours41, seven42, (), colour49, eleven50, ()), ((), (), (), (), (), (), (), (), (), (), ()))) (fun text7 w8 place9 colour49 eleven50 => g.2.2.2.2.1 ((), (text7, w8, place9, colour49, eleven50, ()), ((), (), (), (), (), (), (), (), (), (), ()))) (g.2.2.2.2.2.1 ((), (), ((), (), (), (), (), (), (), (), (), (), ()))) (fun r0 r1 need1 pattern2 stripes3 wide4 each5 step6 text7 w8 place9 period29 three30 whole33 cut34 s209 s210 => g.2.2.2.2.2.2.1 ((r0, r1, ()), (need1, pattern2, stripes3, wide4, each5, step6, text7, w8, place9, (), (), period29, three30, whole33, cut34, (), s209, s210, ()), ((), (), (), (), (), (), (), (), (), (), ()))) (fun r0 stripes3 wide4 each5 step6 text7 w8 place9 colour49 eleven50 s484 s485 => g.2.2.2.2.2.2.2.1 ((r0, ()), (stripes3, wide4, each5, step6, text7, w8, place9, colour49, eleven50, (), s484, s485, ()), ((), (), (), (), (), (), (), (), (), (), ()))) (fun r0 stripes3 wide4 each5 step6 text7 w8 place9 colour49 eleven50 k60 n61 s484 s485 => g.2.2.2.2.2.2.2.2.1 ((r0, ()), (stripes3, wide4, each5, step6, text7, w8, place9, colour49, eleven50, k60, n61, (), s484, s485, ()), ((), (), (), (), (), (), (), (), (), (), ()))) r0 stripes3 wide4 each5 step6 text7 w8 place9 colour49 eleven50 k60 n61 s484 s485) ?_ (fun g => by kernel_rfl)
    simp only [w_FnCarpetsLookOfAll_t9]; repeat (first | apply Tail.cond | (apply Tail.bind; intro _) | exact Tail.here _ | exact Tail.there (Tail.here _) | exact Tail.there (Tail.there (Tail.here _)) | exact Tail.there (Tail.there (Tail.there (Tail.here _))) | exact Tail.there (Tail.there (Tail.there (Tail.there (Tail.here _)))) | exact Tail.there (Tail.there (Tail.there (Tail.there (Tail.there (Tail.here _))))) | exact Tail.there (Tail.there (Tail.there (Tail.there (Tail.there (Tail.there (Tail.here _)))))) | exact Tail.there (Tail.there (Tail.there (Tail.there (Tail.there (Tail.there (Tail.there (Tail.here _))))))) | exact Tail.there (Tail.there (Tail.there (Tail.there (Tail.there (Tail.there (Tail.there (Tail.there (Tail.here _)))))))) | exact Tail.const _), trivial⟩
theorem w_FnCarpetsLookOfAll_hs : ∀ x, Tail c_w_FnCarpetsLookOfAll.pts (fun g => c_w_FnCarpetsLookOfAll.start g x) := fun x => by
    obtain ⟨steps0, need1, pattern2, stripes3, wide4, each5, step6, text7, w8, place9, _⟩ := x
    refine Tail.eq (Y := fun g => w_FnCarpetsLookOfAll_t0 (fun r0 r1 steps0 need1 pattern2 stripes3 wide4 each5 step6 text7 w8 place9 ok22 period29 three30 whole33 cut34 => g.1 ((r0, r1, ()), (steps0, need1, pattern2, stripes3, wide4, each5, step6, text7, w8, place9, (), ok22, (), period29, three30, whole33, cut34, ()), ((), (), (), (), (), (), (), (), (), (), ()))) (fun need1 pattern2 stripes3 wide4 each5 step6 text7 w8 place9 period29 three30 whole33 cut34 => g.2.1 ((), (need1, pattern2, stripes3, wide4, each5, step6, text7, w8, place9, period29, three30, whole33, cut34, ()), ((), (), (), (), (), (), (), (), (), (), ()))) (fun stripes3 wide4 each5 step6 text7 w8 place9 => g.2.2.1 ((), (stripes3, wide4, each5, step6, text7, w8, place9, ()), ((), (), (), (), (), (), (), (), (), (), ()))) (fun r0 stripes3 wide4 each5 step6 text7 w8 place9 colours41 seven42 colour49 eleven50 => g.2.2.2.1 ((r0, ()), (stripes3, wide4, each5, step6, text7, w8, place9, colours41, seven42, (), colour49, eleven50, ()), ((), (), (), (), (), (), (), (), (), (), ()))) (fun text7 w8 place9 colour49 eleven50 => g.2.2.2.2.1 ((), (text7, w8, place9, colour49, eleven50, ()), ((), (), (), (), (), (), (), (), (), (), ()))) (g.2.2.2.2.2.1 ((), (), ((), (), (), (), (), (), (), (), (), (), ()))) (fun r0 r1 need1 pattern2 stripes3 wide4 each5 step6 text7 w8 place9 period29 three30 whole33 cut34 s209 s210 => g.2.2.2.2.2.2.1 ((r0, r1, ()), (need1, pattern2, stripes3, wide4, each5, step6, text7, w8, place9, (), (), period29, three30, whole33, cut34, (), s209, s210, ()), ((), (), (), (), (), (), (), (), (), (), ()))) (fun r0 stripes3 wide4 each5 step6 text7 w8 place9 colour49 eleven50 s484 s485 => g.2.2.2.2.2.2.2.1 ((r0, ()), (stripes3, wide4, each5, step6, text7, w8, place9, colour49, eleven50, (), s484, s485, ()), ((), (), (), (), (), (), (), (), (), (), ()))) (fun r0 stripes3 wide4 each5 step6 text7 w8 place9 colour49 eleven50 k60 n61 s484 s485 => g.2.2.2.2.2.2.2.2.1 ((r0, ()), (stripes3, wide4, each5, step6, text7, w8, place9, colour49, eleven50, k60, n61, (), s484, s485, ()), ((), (), (), (), (), (), (), (), (), (), ()))) steps0 need1 pattern2 stripes3 wide4 each5 step6 text7 w8 place9) ?_ (fun g => by kernel_rfl)
    simp only [w_FnCarpetsLookOfAll_t0]; repeat (first | apply Tail.cond | (apply Tail.bind; intro _) | exact Tail.here _ | exact Tail.there (Tail.here _) | exact Tail.there (Tail.there (Tail.here _)) | exact Tail.there (Tail.there (Tail.there (Tail.here _))) | exact Tail.there (Tail.there (Tail.there (Tail.there (Tail.here _)))) | exact Tail.there (Tail.there (Tail.there (Tail.there (Tail.there (Tail.here _))))) | exact Tail.there (Tail.there (Tail.there (Tail.there (Tail.there (Tail.there (Tail.here _)))))) | exact Tail.there (Tail.there (Tail.there (Tail.there (Tail.there (Tail.there (Tail.there (Tail.here _))))))) | exact Tail.there (Tail.there (Tail.there (Tail.there (Tail.there (Tail.there (Tail.there (Tail.there (Tail.here _)))))))) | exact Tail.const _)
noncomputable def w_FnCarpetsLookOfAll_L1 (r0 : List (Int)) (r1 : List (Int)) (steps0 : Int) (need1 : Int) (pattern2 : Int) (stripes3 : ByteArray) (wide4 : Int) (each5 : Int) (step6 : Int) (text7 : ByteArray) (w8 : Int) (place9 : Int) (ok22 : Bool) (period29 : Int) (three30 : Bool) (whole33 : Int) (cut34 : Int) : Option Bool := c_w_FnCarpetsLookOfAll.L.1 ((r0, r1, ()), (steps0, need1, pattern2, stripes3, wide4, each5, step6, text7, w8, place9, (), ok22, (), period29, three30, whole33, cut34, ()), ((), (), (), (), (), (), (), (), (), (), ()))
noncomputable def w_FnCarpetsLookOfAll_L2 (need1 : Int) (pattern2 : Int) (stripes3 : ByteArray) (wide4 : Int) (each5 : Int) (step6 : Int) (text7 : ByteArray) (w8 : Int) (place9 : Int) (period29 : Int) (three30 : Bool) (whole33 : Int) (cut34 : Int) : Option Bool := c_w_FnCarpetsLookOfAll.L.2.1 ((), (need1, pattern2, stripes3, wide4, each5, step6, text7, w8, place9, period29, three30, whole33, cut34, ()), ((), (), (), (), (), (), (), (), (), (), ()))
noncomputable def w_FnCarpetsLookOfAll_L3 (stripes3 : ByteArray) (wide4 : Int) (each5 : Int) (step6 : Int) (text7 : ByteArray) (w8 : Int) (place9 : Int) : Option Bool := c_w_FnCarpetsLookOfAll.L.2.2.1 ((), (stripes3, wide4, each5, step6, text7, w8, place9, ()), ((), (), (), (), (), (), (), (), (), (), ()))
noncomputable def w_FnCarpetsLookOfAll_L4 (r0 : List (Int)) (stripes3 : ByteArray) (wide4 : Int) (each5 : Int) (step6 : Int) (text7 : ByteArray) (w8 : Int) (place9 : Int) (colours41 : ByteArray) (seven42 : Bool) (colour49 : ByteArray) (eleven50 : Bool) : Option Bool := c_w_FnCarpetsLookOfAll.L.2.2.2.1 ((r0, ()), (stripes3, wide4, each5, step6, text7, w8, place9, colours41, seven42, (), colour49, eleven50, ()), ((), (), (), (), (), (), (), (), (), (), ()))
noncomputable def w_FnCarpetsLookOfAll_L5 (text7 : ByteArray) (w8 : Int) (place9 : Int) (colour49 : ByteArray) (eleven50 : Bool) : Option Bool := c_w_FnCarpetsLookOfAll.L.2.2.2.2.1 ((), (text7, w8, place9, colour49, eleven50, ()), ((), (), (), (), (), (), (), (), (), (), ()))
noncomputable def w_FnCarpetsLookOfAll_L6  : Option Bool := c_w_FnCarpetsLookOfAll.L.2.2.2.2.2.1 ((), (), ((), (), (), (), (), (), (), (), (), (), ()))
noncomputable def w_FnCarpetsLookOfAll_L7 (r0 : List (Int)) (r1 : List (Int)) (need1 : Int) (pattern2 : Int) (stripes3 : ByteArray) (wide4 : Int) (each5 : Int) (step6 : Int) (text7 : ByteArray) (w8 : Int) (place9 : Int) (period29 : Int) (three30 : Bool) (whole33 : Int) (cut34 : Int) (s209 : Int) (s210 : Int) : Option Bool := c_w_FnCarpetsLookOfAll.L.2.2.2.2.2.2.1 ((r0, r1, ()), (need1, pattern2, stripes3, wide4, each5, step6, text7, w8, place9, (), (), period29, three30, whole33, cut34, (), s209, s210, ()), ((), (), (), (), (), (), (), (), (), (), ()))
noncomputable def w_FnCarpetsLookOfAll_L8 (r0 : List (Int)) (stripes3 : ByteArray) (wide4 : Int) (each5 : Int) (step6 : Int) (text7 : ByteArray) (w8 : Int) (place9 : Int) (colour49 : ByteArray) (eleven50 : Bool) (s484 : Int) (s485 : Int) : Option Bool := c_w_FnCarpetsLookOfAll.L.2.2.2.2.2.2.2.1 ((r0, ()), (stripes3, wide4, each5, step6, text7, w8, place9, colour49, eleven50, (), s484, s485, ()), ((), (), (), (), (), (), (), (), (), (), ()))
noncomputable def w_FnCarpetsLookOfAll_L9 (r0 : List (Int)) (stripes3 : ByteArray) (wide4 : Int) (each5 : Int) (step6 : Int) (text7 : ByteArray) (w8 : Int) (place9 : Int) (colour49 : ByteArray) (eleven50 : Bool) (k60 : Int) (n61 : Int) (s484 : Int) (s485 : Int) : Option Bool := c_w_FnCarpetsLookOfAll.L.2.2.2.2.2.2.2.2.1 ((r0, ()), (stripes3, wide4, each5, step6, text7, w8, place9, colour49, eleven50, k60, n61, (), s484, s485, ()), ((), (), (), (), (), (), (), (), (), (), ()))
theorem w_FnCarpetsLookOfAll_u1 (r0 : List (Int)) (r1 : List (Int)) (steps0 : Int) (need1 : Int) (pattern2 : Int) (stripes3 : ByteArray) (wide4 : Int) (each5 : Int) (step6 : Int) (text7 : ByteArray) (w8 : Int) (place9 : Int) (ok22 : Bool) (period29 : Int) (three30 : Bool) (whole33 : Int) (cut34 : Int) : w_FnCarpetsLookOfAll_L1 r0 r1 steps0 need1 pattern2 stripes3 wide4 each5 step6 text7 w8 place9 ok22 period29 three30 whole33 cut34 = w_FnCarpetsLookOfAll_t1 w_FnCarpetsLookOfAll_L1 w_FnCarpetsLookOfAll_L2 w_FnCarpetsLookOfAll_L3 w_FnCarpetsLookOfAll_L4 w_FnCarpetsLookOfAll_L5 w_FnCarpetsLookOfAll_L6 w_FnCarpetsLookOfAll_L7 w_FnCarpetsLookOfAll_L8 w_FnCarpetsLookOfAll_L9 r0 r1 steps0 need1 pattern2 stripes3 wide4 each5 step6 text7 w8 place9 ok22 period29 three30 whole33 cut34 :=
  (congrArg (fun g => g.1 ((r0, r1, ()), (steps0, need1, pattern2, stripes3, wide4, each5, step6, text7, w8, place9, (), ok22, (), period29, three30, whole33, cut34, ()), ((), (), (), (), (), (), (), (), (), (), ()))) (FnCx.L_eq w_FnCarpetsLookOfAll_ts)).trans (by kernel_rfl)
theorem w_FnCarpetsLookOfAll_u2 (need1 : Int) (pattern2 : Int) (stripes3 : ByteArray) (wide4 : Int) (each5 : Int) (step6 : Int) (text7 : ByteArray) (w8 : Int) (place9 : Int) (period29 : Int) (three30 : Bool) (whole33 : Int) (cut34 : Int) : w_FnCarpetsLookOfAll_L2 need1 pattern2 stripes3 wide4 each5 step6 text7 w8 place9 period29 three30 whole33 cut34 = w_FnCarpetsLookOfAll_t2 w_FnCarpetsLookOfAll_L1 w_FnCarpetsLookOfAll_L2 w_FnCarpetsLookOfAll_L3 w_FnCarpetsLookOfAll_L4 w_FnCarpetsLookOfAll_L5 w_FnCarpetsLookOfAll_L6 w_FnCarpetsLookOfAll_L7 w_FnCarpetsLookOfAll_L8 w_FnCarpetsLookOfAll_L9 need1 pattern2 stripes3 wide4 each5 step6 text7 w8 place9 period29 three30 whole33 cut34 :=
  (congrArg (fun g => g.2.1 ((), (need1, pattern2, stripes3, wide4, each5, step6, text7, w8, place9, period29, three30, whole33, cut34, ()), ((), (), (), (), (), (), (), (), (), (), ()))) (FnCx.L_eq w_FnCarpetsLookOfAll_ts)).trans (by kernel_rfl)
theorem w_FnCarpetsLookOfAll_u3 (stripes3 : ByteArray) (wide4 : Int) (each5 : Int) (step6 : Int) (text7 : ByteArray) (w8 : Int) (place9 : Int) : w_FnCarpetsLookOfAll_L3 stripes3 wide4 each5 step6 text7 w8 place9 = w_FnCarpetsLookOfAll_t3 w_FnCarpetsLookOfAll_L1 w_FnCarpetsLookOfAll_L2 w_FnCarpetsLookOfAll_L3 w_FnCarpetsLookOfAll_L4 w_FnCarpetsLookOfAll_L5 w_FnCarpetsLookOfAll_L6 w_FnCarpetsLookOfAll_L7 w_FnCarpetsLookOfAll_L8 w_FnCarpetsLookOfAll_L9 stripes3 wide4 each5 step6 text7 w8 place9 :=
  (congrArg (fun g => g.2.2.1 ((), (stripes3, wide4, each5, step6, text7, w8, place9, ()), ((), (), (), (), (), (), (), (), (), (), ()))) (FnCx.L_eq w_FnCarpetsLookOfAll_ts)).trans (by kernel_rfl)
theorem w_FnCarpetsLookOfAll_u4 (r0 : List (Int)) (stripes3 : ByteArray) (wide4 : Int) (each5 : Int) (step6 : Int) (text7 : ByteArray) (w8 : Int) (place9 : Int) (colours41 : ByteArray) (seven42 : Bool) (colour49 : ByteArray) (eleven50 : Bool) : w_FnCarpetsLookOfAll_L4 r0 stripes3 wide4 each5 step6 text7 w8 place9 colours41 seven42 colour49 eleven50 = w_FnCarpetsLookOfAll_t4 w_FnCarpetsLookOfAll_L1 w_FnCarpetsLookOfAll_L2 w_FnCarpetsLookOfAll_L3 w_FnCarpetsLookOfAll_L4 w_FnCarpetsLookOfAll_L5 w_FnCarpetsLookOfAll_L6 w_FnCarpetsLookOfAll_L7 w_FnCarpetsLookOfAll_L8 w_FnCarpetsLookOfAll_L9 r0 stripes3 wide4 each5 step6 text7 w8 place9 colours41 seven42 colour49 eleven50 :=
  (congrArg (fun g => g.2.2.2.1 ((r0, ()), (stripes3, wide4, each5, step6, text7, w8, place9, colours41, seven42, (), colour49, eleven50, ()), ((), (), (), (), (), (), (), (), (), (), ()))) (FnCx.L_eq w_FnCarpetsLookOfAll_ts)).trans (by kernel_rfl)
theorem w_FnCarpetsLookOfAll_u5 (text7 : ByteArray) (w8 : Int) (place9 : Int) (colour49 : ByteArray) (eleven50 : Bool) : w_FnCarpetsLookOfAll_L5 text7 w8 place9 colour49 eleven50 = w_FnCarpetsLookOfAll_t5 w_FnCarpetsLookOfAll_L1 w_FnCarpetsLookOfAll_L2 w_FnCarpetsLookOfAll_L3 w_FnCarpetsLookOfAll_L4 w_FnCarpetsLookOfAll_L5 w_FnCarpetsLookOfAll_L6 w_FnCarpetsLookOfAll_L7 w_FnCarpetsLookOfAll_L8 w_FnCarpetsLookOfAll_L9 text7 w8 place9 colour49 eleven50 :=
  (congrArg (fun g => g.2.2.2.2.1 ((), (text7, w8, place9, colour49, eleven50, ()), ((), (), (), (), (), (), (), (), (), (), ()))) (FnCx.L_eq w_FnCarpetsLookOfAll_ts)).trans (by kernel_rfl)
theorem w_FnCarpetsLookOfAll_u6  : w_FnCarpetsLookOfAll_L6  = w_FnCarpetsLookOfAll_t6 w_FnCarpetsLookOfAll_L1 w_FnCarpetsLookOfAll_L2 w_FnCarpetsLookOfAll_L3 w_FnCarpetsLookOfAll_L4 w_FnCarpetsLookOfAll_L5 w_FnCarpetsLookOfAll_L6 w_FnCarpetsLookOfAll_L7 w_FnCarpetsLookOfAll_L8 w_FnCarpetsLookOfAll_L9  :=
  (congrArg (fun g => g.2.2.2.2.2.1 ((), (), ((), (), (), (), (), (), (), (), (), (), ()))) (FnCx.L_eq w_FnCarpetsLookOfAll_ts)).trans (by kernel_rfl)
theorem w_FnCarpetsLookOfAll_u7 (r0 : List (Int)) (r1 : List (Int)) (need1 : Int) (pattern2 : Int) (stripes3 : ByteArray) (wide4 : Int) (each5 : Int) (step6 : Int) (text7 : ByteArray) (w8 : Int) (place9 : Int) (period29 : Int) (three30 : Bool) (whole33 : Int) (cut34 : Int) (s209 : Int) (s210 : Int) : w_FnCarpetsLookOfAll_L7 r0 r1 need1 pattern2 stripes3 wide4 each5 step6 text7 w8 place9 period29 three30 whole33 cut34 s209 s210 = w_FnCarpetsLookOfAll_t7 w_FnCarpetsLookOfAll_L1 w_FnCarpetsLookOfAll_L2 w_FnCarpetsLookOfAll_L3 w_FnCarpetsLookOfAll_L4 w_FnCarpetsLookOfAll_L5 w_FnCarpetsLookOfAll_L6 w_FnCarpetsLookOfAll_L7 w_FnCarpetsLookOfAll_L8 w_FnCarpetsLookOfAll_L9 r0 r1 need1 pattern2 stripes3 wide4 each5 step6 text7 w8 place9 period29 three30 whole33 cut34 s209 s210 :=
  (congrArg (fun g => g.2.2.2.2.2.2.1 ((r0, r1, ()), (need1, pattern2, stripes3, wide4, each5, step6, text7, w8, place9, (), (), period29, three30, whole33, cut34, (), s209, s210, ()), ((), (), (), (), (), (), (), (), (), (), ()))) (FnCx.L_eq w_FnCarpetsLookOfAll_ts)).trans (by kernel_rfl)
theorem w_FnCarpetsLookOfAll_u8 (r0 : List (Int)) (stripes3 : ByteArray) (wide4 : Int) (each5 : Int) (step6 : Int) (text7 : ByteArray) (w8 : Int) (place9 : Int) (colour49 : ByteArray) (eleven50 : Bool) (s484 : Int) (s485 : Int) : w_FnCarpetsLookOfAll_L8 r0 stripes3 wide4 each5 step6 text7 w8 place9 colour49 eleven50 s484 s485 = w_FnCarpetsLookOfAll_t8 w_FnCarpetsLookOfAll_L1 w_FnCarpetsLookOfAll_L2 w_FnCarpetsLookOfAll_L3 w_FnCarpetsLookOfAll_L4 w_FnCarpetsLookOfAll_L5 w_FnCarpetsLookOfAll_L6 w_FnCarpetsLookOfAll_L7 w_FnCarpetsLookOfAll_L8 w_FnCarpetsLookOfAll_L9 r0 stripes3 wide4 each5 step6 text7 w8 place9 colour49 eleven50 s484 s485 :=
  (congrArg (fun g => g.2.2.2.2.2.2.2.1 ((r0, ()), (stripes3, wide4, each5, step6, text7, w8, place9, colour49, eleven50, (), s484, s485, ()), ((), (), (), (), (), (), (), (), (), (), ()))) (FnCx.L_eq w_FnCarpetsLookOfAll_ts)).trans (by kernel_rfl)
theorem w_FnCarpetsLookOfAll_u9 (r0 : List (Int)) (stripes3 : ByteArray) (wide4 : Int) (each5 : Int) (step6 : Int) (text7 : ByteArray) (w8 : Int) (place9 : Int) (colour49 : ByteArray) (eleven50 : Bool) (k60 : Int) (n61 : Int) (s484 : Int) (s485 : Int) : w_FnCarpetsLookOfAll_L9 r0 stripes3 wide4 each5 step6 text7 w8 place9 colour49 eleven50 k60 n61 s484 s485 = w_FnCarpetsLookOfAll_t9 w_FnCarpetsLookOfAll_L1 w_FnCarpetsLookOfAll_L2 w_FnCarpetsLookOfAll_L3 w_FnCarpetsLookOfAll_L4 w_FnCarpetsLookOfAll_L5 w_FnCarpetsLookOfAll_L6 w_FnCarpetsLookOfAll_L7 w_FnCarpetsLookOfAll_L8 w_FnCarpetsLookOfAll_L9 r0 stripes3 wide4 each5 step6 text7 w8 place9 colour49 eleven50 k60 n61 s484 s485 :=
  (congrArg (fun g => g.2.2.2.2.2.2.2.2.1 ((r0, ()), (stripes3, wide4, each5, step6, text7, w8, place9, colour49, eleven50, k60, n61, (), s484, s485, ()), ((), (), (), (), (), (), (), (), (), (), ()))) (FnCx.L_eq w_FnCarpetsLookOfAll_ts)).trans (by kernel_rfl)
noncomputable def w_FnCarpetsLookOfAll (steps0 : Int) (need1 : Int) (pattern2 : Int) (stripes3 : ByteArray) (wide4 : Int) (each5 : Int) (step6 : Int) (text7 : ByteArray) (w8 : Int) (place9 : Int) : Option Bool := w_FnCarpetsLookOfAll_t0 w_FnCarpetsLookOfAll_L1 w_FnCarpetsLookOfAll_L2 w_FnCarpetsLookOfAll_L3 w_FnCarpetsLookOfAll_L4 w_FnCarpetsLookOfAll_L5 w_FnCarpetsLookOfAll_L6 w_FnCarpetsLookOfAll_L7 w_FnCarpetsLookOfAll_L8 w_FnCarpetsLookOfAll_L9 steps0 need1 pattern2 stripes3 wide4 each5 step6 text7 w8 place9
theorem w_FnCarpetsLookOfAll_e (steps0 : Int) (need1 : Int) (pattern2 : Int) (stripes3 : ByteArray) (wide4 : Int) (each5 : Int) (step6 : Int) (text7 : ByteArray) (w8 : Int) (place9 : Int) : c_w_FnCarpetsLookOfAll.start c_w_FnCarpetsLookOfAll.L (steps0, need1, pattern2, stripes3, wide4, each5, step6, text7, w8, place9, ()) = w_FnCarpetsLookOfAll steps0 need1 pattern2 stripes3 wide4 each5 step6 text7 w8 place9 := by kernel_rfl
noncomputable def F_w_FnCarpetsLookOfAll : Ins c_w_FnCarpetsLookOfAll.ins → Option Bool := fun x => w_FnCarpetsLookOfAll x.1 x.2.1 x.2.2.1 x.2.2.2.1 x.2.2.2.2.1 x.2.2.2.2.2.1 x.2.2.2.2.2.2.1 x.2.2.2.2.2.2.2.1 x.2.2.2.2.2.2.2.2.1 x.2.2.2.2.2.2.2.2.2.1
noncomputable def S_w_FnCarpetsLookOfAll : FSpec := mkF c_w_FnCarpetsLookOfAll.env.pre c_w_FnCarpetsLookOfAll.ins c_w_FnCarpetsLookOfAll.out c_w_FnCarpetsLookOfAll.inj F_w_FnCarpetsLookOfAll
theorem h_w_FnCarpetsLookOfAll : Cert Try.prog 3 S_w_FnCarpetsLookOfAll := FnCx.certF (c := c_w_FnCarpetsLookOfAll) F_w_FnCarpetsLookOfAll (tyOk _ _ _) (spOk ⟨h_i_PatternStarts, fun _ _ _ => trivial, ⟨h_s_PatternStarts, fun _ _ _ => trivial, ⟨h_i_WholeStarts, fun _ _ _ => trivial, ⟨h_s_WholeStarts, fun _ _ _ => trivial, ⟨h_i_PatternPeriod, fun _ _ _ => trivial, ⟨h_s_PatternPeriod, fun _ _ _ => trivial, ⟨h_i_WithPattern, fun _ _ _ => trivial, ⟨h_s_WithPattern, fun _ _ _ => trivial, ⟨h_w_wSame, fun _ _ _ => trivial, ⟨h_w_wRises, fun _ _ _ => trivial, ⟨h_w_wHas, fun _ _ _ => trivial, ⟨h_i_ColoursOfStep, fun _ _ _ => trivial, ⟨h_s_ColoursOfStep, fun _ _ _ => trivial, ⟨h_i_AlikeSteps, fun _ _ _ => trivial, ⟨h_s_AlikeSteps, fun _ _ _ => trivial, ⟨h_i_ColourAt, fun _ _ _ => trivial, ⟨h_s_ColourAt, fun _ _ _ => trivial, ⟨h_i_IsStriped, fun _ _ _ => trivial, ⟨h_s_IsStriped, fun _ _ _ => trivial, trivial⟩⟩⟩⟩⟩⟩⟩⟩⟩⟩⟩⟩⟩⟩⟩⟩⟩⟩⟩) (fun _ _ _ _ _ hs => evDr_ok (tyOk _ _ _) hs follows) Try.func3 rfl rfl Try.ntmps3 (by kernel_rfl) rfl rfl (fun _ => rfl) w_FnCarpetsLookOfAll_ts w_FnCarpetsLookOfAll_hs (fun x t hb ht => by
  obtain ⟨steps0, need1, pattern2, stripes3, wide4, each5, step6, text7, w8, place9, _⟩ := x
  exact (w_FnCarpetsLookOfAll_e steps0 need1 pattern2 stripes3 wide4 each5 step6 text7 w8 place9).trans ht)
end Go.Proofs.Ythenlapjhlljnaa.V
