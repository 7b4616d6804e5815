/- Functions of the program, as plain functions. No condition. -/
import Derived.Test.YthenlapjhlljnaaG2
set_option linter.unusedVariables false
set_option linter.unusedSimpArgs false
set_option maxRecDepth 100000
namespace Go.Proofs.Ythenlapjhlljnaa.V
open Go Go.Ev Go.Proofs
/-! laws.big -/
noncomputable def c_w_big : FnCx := { env := env 16 [] [], body := bodyOf Try.f34, res := [.tmp 4], ins := [.ro kSuint8, .ro kSuint8], out := [(kbool, true)], T := Bool, fin := fun r => r.1.1, inj := fun t => ((t, ()), ((), (), ())), pts := [], fuel := 400, dr := noDr }
noncomputable def w_big (code0 : List Int) (more1 : List Int) : Bool :=
  bif decide ((↑(List.length code0) : Int) > 1048576) then true
  else decide ((↑(List.length more1) : Int) > IntKind.wrap IntKind.i64 (1048576 - (↑(List.length code0) : Int)))
theorem w_big_e (code0 : List Int) (more1 : List Int) : c_w_big.start c_w_big.L (code0, more1, ()) = some (w_big code0 more1) := by
  refine Eq.trans (b := (bif decide ((↑(List.length code0) : Int) > 1048576) then some true else some (decide ((↑(List.length more1) : Int) > IntKind.wrap IntKind.i64 (1048576 - (↑(List.length code0) : Int)))) : Option Bool)) (by kernel_rfl) ?_
  unfold w_big
  repeat (first | rfl | apply condS)
noncomputable def F_w_big : Ins c_w_big.ins → Bool := fun x => w_big x.1 x.2.1
noncomputable def S_w_big : FSpec := mkT c_w_big.env.pre c_w_big.ins c_w_big.out c_w_big.inj F_w_big
theorem h_w_big : Cert Try.prog 34 S_w_big := FnCx.certT (c := c_w_big) F_w_big (tyOk _ _ _) (spOk trivial) (fun _ _ _ _ _ hs => noDr_ok) Try.func34 rfl rfl Try.ntmps34 (by kernel_rfl) rfl rfl (fun _ => rfl) trivial (fun x => .inl ⟨c_w_big.start () x, fun _ => rfl⟩) (fun x hb => by
  obtain ⟨code0, more1, _⟩ := x
  exact w_big_e code0 more1)
/-! laws.wSame -/
noncomputable def c_w_wSame : FnCx := { env := env 26 [] [], body := bodyOf Try.f23, res := [.tmp 4], ins := [.ro kSint, .ro kSint], out := [(kbool, true)], T := Bool, fin := fun r => r.1.1, inj := fun t => ((t, ()), ((), (), ())), pts := [([.inLoop [1, 1, 0, 1, 0, 0], .inBlock 0, .code [1, 1, 1]], Shape.mk [Bs.row kint 3 false, Bs.row kint 3 false] [(0, Ss.one (Cs.sl 0)), (1, Ss.one (Cs.sl 1)), (12, Ss.one (Cs.sc kint)), (13, Ss.one (Cs.sc kint))] [Ss.one (Cs.any), Ss.one (Cs.any)])], fuel := 400, dr := evDr (env 26 [] []) }
noncomputable def w_wSame_t1 (g1 : List (Int) → List (Int) → Int → Int → Option (Bool)) (r0 : List (Int)) (r1 : List (Int)) (s12 : Int) (s13 : Int) : Option Bool :=
  bif decide (s13 < s12) then
    bif decide (0 ≤ s13) then
      bif decide (s13 < (↑(List.length r0) : Int)) then
        bif decide (0 ≤ s13) then
          bif decide (s13 < (↑(List.length r1) : Int)) then
            bif rdk kint r0 s13 != rdk kint r1 s13 then some false else g1 r0 r1 s12 (IntKind.wrap IntKind.i64 (s13 + 1))
          else none
        else none
      else none
    else none
  else some true
noncomputable def w_wSame_t0 (g1 : List (Int) → List (Int) → Int → Int → Option (Bool)) (a0 : List Int) (b1 : List Int) : Option Bool :=
  bif (↑(List.length a0) : Int) != (↑(List.length b1) : Int) then some false else g1 a0 b1 (↑(List.length a0) : Int) 0
theorem w_wSame_ts : Tails c_w_wSame.pts c_w_wSame.round :=
  ⟨fun s => by
    obtain ⟨⟨r0, r1, _⟩, ⟨_, _, s12, s13, _⟩, ⟨_, _, _⟩⟩ := s
    refine Tail.eq (Y := fun g => w_wSame_t1 (fun r0 r1 s12 s13 => g.1 ((r0, r1, ()), ((), (), s12, s13, ()), ((), (), ()))) r0 r1 s12 s13) ?_ (fun g => by kernel_rfl)
    simp only [w_wSame_t1]; repeat (first | exact Tail.const _ | exact Tail.here _ | exact Tail.there (Tail.here _) | exact Tail.there (Tail.there (Tail.here _)) | exact Tail.there (Tail.there (Tail.there (Tail.here _))) | exact Tail.there (Tail.there (Tail.there (Tail.there (Tail.here _)))) | exact Tail.there (Tail.there (Tail.there (Tail.there (Tail.there (Tail.here _))))) | apply Tail.cond | (apply Tail.bind; intro _)), trivial⟩
theorem w_wSame_hs : ∀ x, Tail c_w_wSame.pts (fun g => c_w_wSame.start g x) := fun x => by
    obtain ⟨a0, b1, _⟩ := x
    refine Tail.eq (Y := fun g => w_wSame_t0 (fun r0 r1 s12 s13 => g.1 ((r0, r1, ()), ((), (), s12, s13, ()), ((), (), ()))) a0 b1) ?_ (fun g => by kernel_rfl)
    simp only [w_wSame_t0]; repeat (first | exact Tail.const _ | exact Tail.here _ | exact Tail.there (Tail.here _) | exact Tail.there (Tail.there (Tail.here _)) | exact Tail.there (Tail.there (Tail.there (Tail.here _))) | exact Tail.there (Tail.there (Tail.there (Tail.there (Tail.here _)))) | exact Tail.there (Tail.there (Tail.there (Tail.there (Tail.there (Tail.here _))))) | apply Tail.cond | (apply Tail.bind; intro _))
noncomputable def w_wSame_L1 (r0 : List (Int)) (r1 : List (Int)) (s12 : Int) (s13 : Int) : Option Bool := c_w_wSame.L.1 ((r0, r1, ()), ((), (), s12, s13, ()), ((), (), ()))
theorem w_wSame_u1 (r0 : List (Int)) (r1 : List (Int)) (s12 : Int) (s13 : Int) : w_wSame_L1 r0 r1 s12 s13 = w_wSame_t1 w_wSame_L1 r0 r1 s12 s13 :=
  (congrArg (fun g => g.1 ((r0, r1, ()), ((), (), s12, s13, ()), ((), (), ()))) (FnCx.L_eq w_wSame_ts)).trans (by kernel_rfl)
noncomputable def w_wSame (a0 : List Int) (b1 : List Int) : Option Bool := w_wSame_t0 w_wSame_L1 a0 b1
theorem w_wSame_e (a0 : List Int) (b1 : List Int) : c_w_wSame.start c_w_wSame.L (a0, b1, ()) = w_wSame a0 b1 := by kernel_rfl
noncomputable def F_w_wSame : Ins c_w_wSame.ins → Option Bool := fun x => w_wSame x.1 x.2.1
noncomputable def S_w_wSame : FSpec := mkF c_w_wSame.env.pre c_w_wSame.ins c_w_wSame.out c_w_wSame.inj F_w_wSame
theorem h_w_wSame : Cert Try.prog 23 S_w_wSame := FnCx.certF (c := c_w_wSame) F_w_wSame (tyOk _ _ _) (spOk trivial) (fun _ _ _ _ _ hs => evDr_ok (tyOk _ _ _) hs follows) Try.func23 rfl rfl Try.ntmps23 (by kernel_rfl) rfl rfl (fun _ => rfl) w_wSame_ts w_wSame_hs (fun x t hb ht => by
  obtain ⟨a0, b1, _⟩ := x
  exact (w_wSame_e a0 b1).trans ht)
/-! laws.wIs -/
noncomputable def c_w_wIs : FnCx := { env := env 36 [] [], body := bodyOf Try.f104, res := [.tmp 8], ins := [.ro kint, .ro kint, .ro kint, .ro kint], out := [(kbool, true)], T := Bool, fin := fun r => r.1.1, inj := fun t => ((t, ()), ((), (), (), (), ())), pts := [([.inLoop [1, 1, 1, 0, 0, 0], .inBlock 0, .code [1, 1, 1, 1]], Shape.mk [] [(9, Ss.one (Cs.sc kint)), (10, Ss.one (Cs.sc kint))] [Ss.one (Cs.any), Ss.one (Cs.any), Ss.one (Cs.any), Ss.one (Cs.any)])], fuel := 400, dr := evDr (env 36 [] []) }
noncomputable def w_wIs_t1 (g1 : Int → Int → Option (Bool)) (x9 : Int) (y10 : Int) : Option Bool :=
  bif decide (y10 > 0) then bif y10 == 0 then none else g1 y10 (Int.tmod x9 y10) else some (x9 == 1)
noncomputable def w_wIs_t0 (g1 : Int → Int → Option (Bool)) (num0 : Int) (den1 : Int) (a2 : Int) (b3 : Int) : Option Bool :=
  bif decide (num0 < 0) then some false
  else
    bif decide (den1 < 1) then some false else bif IntKind.wrap IntKind.i64 (num0 * b3) != IntKind.wrap IntKind.i64 (a2 * den1) then some false else g1 num0 den1
theorem w_wIs_ts : Tails c_w_wIs.pts c_w_wIs.round :=
  ⟨fun s => by
    obtain ⟨_, ⟨x9, y10, _⟩, ⟨_, _, _, _, _⟩⟩ := s
    refine Tail.eq (Y := fun g => w_wIs_t1 (fun x9 y10 => g.1 ((), (x9, y10, ()), ((), (), (), (), ()))) x9 y10) ?_ (fun g => by kernel_rfl)
    simp only [w_wIs_t1]; repeat (first | exact Tail.const _ | exact Tail.here _ | exact Tail.there (Tail.here _) | exact Tail.there (Tail.there (Tail.here _)) | exact Tail.there (Tail.there (Tail.there (Tail.here _))) | exact Tail.there (Tail.there (Tail.there (Tail.there (Tail.here _)))) | exact Tail.there (Tail.there (Tail.there (Tail.there (Tail.there (Tail.here _))))) | apply Tail.cond | (apply Tail.bind; intro _)), trivial⟩
theorem w_wIs_hs : ∀ x, Tail c_w_wIs.pts (fun g => c_w_wIs.start g x) := fun x => by
    obtain ⟨num0, den1, a2, b3, _⟩ := x
    refine Tail.eq (Y := fun g => w_wIs_t0 (fun x9 y10 => g.1 ((), (x9, y10, ()), ((), (), (), (), ()))) num0 den1 a2 b3) ?_ (fun g => by kernel_rfl)
    simp only [w_wIs_t0]; repeat (first | exact Tail.const _ | exact Tail.here _ | exact Tail.there (Tail.here _) | exact Tail.there (Tail.there (Tail.here _)) | exact Tail.there (Tail.there (Tail.there (Tail.here _))) | exact Tail.there (Tail.there (Tail.there (Tail.there (Tail.here _)))) | exact Tail.there (Tail.there (Tail.there (Tail.there (Tail.there (Tail.here _))))) | apply Tail.cond | (apply Tail.bind; intro _))
noncomputable def w_wIs_L1 (x9 : Int) (y10 : Int) : Option Bool := c_w_wIs.L.1 ((), (x9, y10, ()), ((), (), (), (), ()))
theorem w_wIs_u1 (x9 : Int) (y10 : Int) : w_wIs_L1 x9 y10 = w_wIs_t1 w_wIs_L1 x9 y10 :=
  (congrArg (fun g => g.1 ((), (x9, y10, ()), ((), (), (), (), ()))) (FnCx.L_eq w_wIs_ts)).trans (by kernel_rfl)
noncomputable def w_wIs (num0 : Int) (den1 : Int) (a2 : Int) (b3 : Int) : Option Bool := w_wIs_t0 w_wIs_L1 num0 den1 a2 b3
theorem w_wIs_e (num0 : Int) (den1 : Int) (a2 : Int) (b3 : Int) : c_w_wIs.start c_w_wIs.L (num0, den1, a2, b3, ()) = w_wIs num0 den1 a2 b3 := by kernel_rfl
noncomputable def F_w_wIs : Ins c_w_wIs.ins → Option Bool := fun x => w_wIs x.1 x.2.1 x.2.2.1 x.2.2.2.1
noncomputable def S_w_wIs : FSpec := mkF c_w_wIs.env.pre c_w_wIs.ins c_w_wIs.out c_w_wIs.inj F_w_wIs
theorem h_w_wIs : Cert Try.prog 104 S_w_wIs := FnCx.certF (c := c_w_wIs) F_w_wIs (tyOk _ _ _) (spOk trivial) (fun _ _ _ _ _ hs => evDr_ok (tyOk _ _ _) hs follows) Try.func104 rfl rfl Try.ntmps104 (by kernel_rfl) rfl rfl (fun _ => rfl) w_wIs_ts w_wIs_hs (fun x t hb ht => by
  obtain ⟨num0, den1, a2, b3, _⟩ := x
  exact (w_wIs_e num0 den1 a2 b3).trans ht)
/-! laws.wSum -/
noncomputable def c_w_wSum : FnCx := { env := env 17 [] [], body := bodyOf Try.f105, res := [.tmp 2], ins := [.ro kSint], out := [(kint, true)], T := Int, fin := fun r => r.1.1, inj := fun t => ((t, ()), ((), ())), pts := [([.inLoop [1, 1, 0, 1, 0, 0], .inBlock 0, .code [1, 1, 1]], Shape.mk [Bs.row kint 3 false] [(3, Ss.one (Cs.sc kint)), (6, Ss.one (Cs.sl 0)), (7, Ss.one (Cs.sc kint)), (8, Ss.one (Cs.sc kint))] [Ss.one (Cs.any)])], fuel := 400, dr := noDr }
noncomputable def w_wSum_t1 (g1 : List (Int) → Int → Int → Int → Option (Int)) (r0 : List (Int)) (n3 : Int) (s7 : Int) (s8 : Int) : Option Int :=
  bif decide (s8 < s7) then
    bif decide (0 ≤ s8) then
      bif decide (s8 < (↑(List.length r0) : Int)) then
        g1 r0 (IntKind.wrap IntKind.i64 (n3 + rdk kint r0 s8)) s7 (IntKind.wrap IntKind.i64 (s8 + 1))
      else none
    else none
  else some n3
noncomputable def w_wSum_t0 (g1 : List (Int) → Int → Int → Int → Option (Int)) (a0 : List Int) : Option Int :=
  g1 a0 0 (↑(List.length a0) : Int) 0
theorem w_wSum_ts : Tails c_w_wSum.pts c_w_wSum.round :=
  ⟨fun s => by
    obtain ⟨⟨r0, _⟩, ⟨n3, _, s7, s8, _⟩, ⟨_, _⟩⟩ := s
    refine Tail.eq (Y := fun g => w_wSum_t1 (fun r0 n3 s7 s8 => g.1 ((r0, ()), (n3, (), s7, s8, ()), ((), ()))) r0 n3 s7 s8) ?_ (fun g => by kernel_rfl)
    simp only [w_wSum_t1]; repeat (first | exact Tail.const _ | exact Tail.here _ | exact Tail.there (Tail.here _) | exact Tail.there (Tail.there (Tail.here _)) | exact Tail.there (Tail.there (Tail.there (Tail.here _))) | exact Tail.there (Tail.there (Tail.there (Tail.there (Tail.here _)))) | exact Tail.there (Tail.there (Tail.there (Tail.there (Tail.there (Tail.here _))))) | apply Tail.cond | (apply Tail.bind; intro _)), trivial⟩
theorem w_wSum_hs : ∀ x, Tail c_w_wSum.pts (fun g => c_w_wSum.start g x) := fun x => by
    obtain ⟨a0, _⟩ := x
    refine Tail.eq (Y := fun g => w_wSum_t0 (fun r0 n3 s7 s8 => g.1 ((r0, ()), (n3, (), s7, s8, ()), ((), ()))) a0) ?_ (fun g => by kernel_rfl)
    simp only [w_wSum_t0]; repeat (first | exact Tail.const _ | exact Tail.here _ | exact Tail.there (Tail.here _) | exact Tail.there (Tail.there (Tail.here _)) | exact Tail.there (Tail.there (Tail.there (Tail.here _))) | exact Tail.there (Tail.there (Tail.there (Tail.there (Tail.here _)))) | exact Tail.there (Tail.there (Tail.there (Tail.there (Tail.there (Tail.here _))))) | apply Tail.cond | (apply Tail.bind; intro _))
noncomputable def w_wSum_L1 (r0 : List (Int)) (n3 : Int) (s7 : Int) (s8 : Int) : Option Int := c_w_wSum.L.1 ((r0, ()), (n3, (), s7, s8, ()), ((), ()))
theorem w_wSum_u1 (r0 : List (Int)) (n3 : Int) (s7 : Int) (s8 : Int) : w_wSum_L1 r0 n3 s7 s8 = w_wSum_t1 w_wSum_L1 r0 n3 s7 s8 :=
  (congrArg (fun g => g.1 ((r0, ()), (n3, (), s7, s8, ()), ((), ()))) (FnCx.L_eq w_wSum_ts)).trans (by kernel_rfl)
noncomputable def w_wSum (a0 : List Int) : Option Int := w_wSum_t0 w_wSum_L1 a0
theorem w_wSum_e (a0 : List Int) : c_w_wSum.start c_w_wSum.L (a0, ()) = w_wSum a0 := by kernel_rfl
noncomputable def F_w_wSum : Ins c_w_wSum.ins → Option Int := fun x => w_wSum x.1
noncomputable def S_w_wSum : FSpec := mkF c_w_wSum.env.pre c_w_wSum.ins c_w_wSum.out c_w_wSum.inj F_w_wSum
theorem h_w_wSum : Cert Try.prog 105 S_w_wSum := FnCx.certF (c := c_w_wSum) F_w_wSum (tyOk _ _ _) (spOk trivial) (fun _ _ _ _ _ hs => noDr_ok) Try.func105 rfl rfl Try.ntmps105 (by kernel_rfl) rfl rfl (fun _ => rfl) w_wSum_ts w_wSum_hs (fun x t hb ht => by
  obtain ⟨a0, _⟩ := x
  exact (w_wSum_e a0).trans ht)
/-! laws.wRises -/
noncomputable def c_w_wRises : FnCx := { env := env 20 [] [], body := bodyOf Try.f24, res := [.tmp 2], ins := [.ro kSint], out := [(kbool, true)], T := Bool, fin := fun r => r.1.1, inj := fun t => ((t, ()), ((), ())), pts := [([.inLoop [1, 0, 1, 0, 0], .inBlock 0, .code [1, 1]], Shape.mk [Bs.row kint 3 false] [(0, Ss.one (Cs.sl 0)), (3, Ss.one (Cs.sc kint))] [Ss.one (Cs.any)])], fuel := 400, dr := evDr (env 20 [] []) }
noncomputable def w_wRises_t1 (g1 : List (Int) → Int → Option (Bool)) (r0 : List (Int)) (i3 : Int) : Option Bool :=
  bif decide (i3 < (↑(List.length r0) : Int)) then
    bif decide (0 ≤ IntKind.wrap IntKind.i64 (i3 - 1)) then
      bif decide (IntKind.wrap IntKind.i64 (i3 - 1) < (↑(List.length r0) : Int)) then
        bif decide (0 ≤ i3) then
          bif decide (i3 < (↑(List.length r0) : Int)) then
            bif decide (rdk kint r0 (IntKind.wrap IntKind.i64 (i3 - 1)) ≥ rdk kint r0 i3) then some false
            else g1 r0 (IntKind.wrap IntKind.i64 (i3 + 1))
          else none
        else none
      else none
    else none
  else some true
noncomputable def w_wRises_t0 (g1 : List (Int) → Int → Option (Bool)) (a0 : List Int) : Option Bool :=
  g1 a0 1
theorem w_wRises_ts : Tails c_w_wRises.pts c_w_wRises.round :=
  ⟨fun s => by
    obtain ⟨⟨r0, _⟩, ⟨_, i3, _⟩, ⟨_, _⟩⟩ := s
    refine Tail.eq (Y := fun g => w_wRises_t1 (fun r0 i3 => g.1 ((r0, ()), ((), i3, ()), ((), ()))) r0 i3) ?_ (fun g => by kernel_rfl)
    simp only [w_wRises_t1]; repeat (first | exact Tail.const _ | exact Tail.here _ | exact Tail.there (Tail.here _) | exact Tail.there (Tail.there (Tail.here _)) | exact Tail.there (Tail.there (Tail.there (Tail.here _))) | exact Tail.there (Tail.there (Tail.there (Tail.there (Tail.here _)))) | exact Tail.there (Tail.there (Tail.there (Tail.there (Tail.there (Tail.here _))))) | apply Tail.cond | (apply Tail.bind; intro _)), trivial⟩
theorem w_wRises_hs : ∀ x, Tail c_w_wRises.pts (fun g => c_w_wRises.start g x) := fun x => by
    obtain ⟨a0, _⟩ := x
    refine Tail.eq (Y := fun g => w_wRises_t0 (fun r0 i3 => g.1 ((r0, ()), ((), i3, ()), ((), ()))) a0) ?_ (fun g => by kernel_rfl)
    simp only [w_wRises_t0]; repeat (first | exact Tail.const _ | exact Tail.here _ | exact Tail.there (Tail.here _) | exact Tail.there (Tail.there (Tail.here _)) | exact Tail.there (Tail.there (Tail.there (Tail.here _))) | exact Tail.there (Tail.there (Tail.there (Tail.there (Tail.here _)))) | exact Tail.there (Tail.there (Tail.there (Tail.there (Tail.there (Tail.here _))))) | apply Tail.cond | (apply Tail.bind; intro _))
noncomputable def w_wRises_L1 (r0 : List (Int)) (i3 : Int) : Option Bool := c_w_wRises.L.1 ((r0, ()), ((), i3, ()), ((), ()))
theorem w_wRises_u1 (r0 : List (Int)) (i3 : Int) : w_wRises_L1 r0 i3 = w_wRises_t1 w_wRises_L1 r0 i3 :=
  (congrArg (fun g => g.1 ((r0, ()), ((), i3, ()), ((), ()))) (FnCx.L_eq w_wRises_ts)).trans (by kernel_rfl)
noncomputable def w_wRises (a0 : List Int) : Option Bool := w_wRises_t0 w_wRises_L1 a0
theorem w_wRises_e (a0 : List Int) : c_w_wRises.start c_w_wRises.L (a0, ()) = w_wRises a0 := by kernel_rfl
noncomputable def F_w_wRises : Ins c_w_wRises.ins → Option Bool := fun x => w_wRises x.1
noncomputable def S_w_wRises : FSpec := mkF c_w_wRises.env.pre c_w_wRises.ins c_w_wRises.out c_w_wRises.inj F_w_wRises
theorem h_w_wRises : Cert Try.prog 24 S_w_wRises := FnCx.certF (c := c_w_wRises) F_w_wRises (tyOk _ _ _) (spOk trivial) (fun _ _ _ _ _ hs => evDr_ok (tyOk _ _ _) hs follows) Try.func24 rfl rfl Try.ntmps24 (by kernel_rfl) rfl rfl (fun _ => rfl) w_wRises_ts w_wRises_hs (fun x t hb ht => by
  obtain ⟨a0, _⟩ := x
  exact (w_wRises_e a0).trans ht)
/-! laws.wHas -/
noncomputable def c_w_wHas : FnCx := { env := env 17 [] [], body := bodyOf Try.f25, res := [.tmp 4], ins := [.ro kSint, .ro kint], out := [(kbool, true)], T := Bool, fin := fun r => r.1.1, inj := fun t => ((t, ()), ((), (), ())), pts := [([.inLoop [1, 0, 1, 0, 0], .inBlock 0, .code [1, 1]], Shape.mk [Bs.row kint 3 false] [(1, Ss.one (Cs.sc kint)), (7, Ss.one (Cs.sl 0)), (8, Ss.one (Cs.sc kint)), (9, Ss.one (Cs.sc kint))] [Ss.one (Cs.any), Ss.one (Cs.any)])], fuel := 400, dr := noDr }
noncomputable def w_wHas_t1 (g1 : List (Int) → Int → Int → Int → Option (Bool)) (r0 : List (Int)) (n1 : Int) (s8 : Int) (s9 : Int) : Option Bool :=
  bif decide (s9 < s8) then
    bif decide (0 ≤ s9) then
      bif decide (s9 < (↑(List.length r0) : Int)) then
        bif rdk kint r0 s9 == n1 then some true else g1 r0 n1 s8 (IntKind.wrap IntKind.i64 (s9 + 1))
      else none
    else none
  else some false
noncomputable def w_wHas_t0 (g1 : List (Int) → Int → Int → Int → Option (Bool)) (a0 : List Int) (n1 : Int) : Option Bool :=
  g1 a0 n1 (↑(List.length a0) : Int) 0
theorem w_wHas_ts : Tails c_w_wHas.pts c_w_wHas.round :=
  ⟨fun s => by
    obtain ⟨⟨r0, _⟩, ⟨n1, _, s8, s9, _⟩, ⟨_, _, _⟩⟩ := s
    refine Tail.eq (Y := fun g => w_wHas_t1 (fun r0 n1 s8 s9 => g.1 ((r0, ()), (n1, (), s8, s9, ()), ((), (), ()))) r0 n1 s8 s9) ?_ (fun g => by kernel_rfl)
    simp only [w_wHas_t1]; repeat (first | exact Tail.const _ | exact Tail.here _ | exact Tail.there (Tail.here _) | exact Tail.there (Tail.there (Tail.here _)) | exact Tail.there (Tail.there (Tail.there (Tail.here _))) | exact Tail.there (Tail.there (Tail.there (Tail.there (Tail.here _)))) | exact Tail.there (Tail.there (Tail.there (Tail.there (Tail.there (Tail.here _))))) | apply Tail.cond | (apply Tail.bind; intro _)), trivial⟩
theorem w_wHas_hs : ∀ x, Tail c_w_wHas.pts (fun g => c_w_wHas.start g x) := fun x => by
    obtain ⟨a0, n1, _⟩ := x
    refine Tail.eq (Y := fun g => w_wHas_t0 (fun r0 n1 s8 s9 => g.1 ((r0, ()), (n1, (), s8, s9, ()), ((), (), ()))) a0 n1) ?_ (fun g => by kernel_rfl)
    simp only [w_wHas_t0]; repeat (first | exact Tail.const _ | exact Tail.here _ | exact Tail.there (Tail.here _) | exact Tail.there (Tail.there (Tail.here _)) | exact Tail.there (Tail.there (Tail.there (Tail.here _))) | exact Tail.there (Tail.there (Tail.there (Tail.there (Tail.here _)))) | exact Tail.there (Tail.there (Tail.there (Tail.there (Tail.there (Tail.here _))))) | apply Tail.cond | (apply Tail.bind; intro _))
noncomputable def w_wHas_L1 (r0 : List (Int)) (n1 : Int) (s8 : Int) (s9 : Int) : Option Bool := c_w_wHas.L.1 ((r0, ()), (n1, (), s8, s9, ()), ((), (), ()))
theorem w_wHas_u1 (r0 : List (Int)) (n1 : Int) (s8 : Int) (s9 : Int) : w_wHas_L1 r0 n1 s8 s9 = w_wHas_t1 w_wHas_L1 r0 n1 s8 s9 :=
  (congrArg (fun g => g.1 ((r0, ()), (n1, (), s8, s9, ()), ((), (), ()))) (FnCx.L_eq w_wHas_ts)).trans (by kernel_rfl)
noncomputable def w_wHas (a0 : List Int) (n1 : Int) : Option Bool := w_wHas_t0 w_wHas_L1 a0 n1
theorem w_wHas_e (a0 : List Int) (n1 : Int) : c_w_wHas.start c_w_wHas.L (a0, n1, ()) = w_wHas a0 n1 := by kernel_rfl
noncomputable def F_w_wHas : Ins c_w_wHas.ins → Option Bool := fun x => w_wHas x.1 x.2.1
noncomputable def S_w_wHas : FSpec := mkF c_w_wHas.env.pre c_w_wHas.ins c_w_wHas.out c_w_wHas.inj F_w_wHas
theorem h_w_wHas : Cert Try.prog 25 S_w_wHas := FnCx.certF (c := c_w_wHas) F_w_wHas (tyOk _ _ _) (spOk trivial) (fun _ _ _ _ _ hs => noDr_ok) Try.func25 rfl rfl Try.ntmps25 (by kernel_rfl) rfl rfl (fun _ => rfl) w_wHas_ts w_wHas_hs (fun x t hb ht => by
  obtain ⟨a0, n1, _⟩ := x
  exact (w_wHas_e a0 n1).trans ht)
/-! laws.FnSpiralsTurn -/
noncomputable def c_w_FnSpiralsTurn : FnCx := { env := env 712 [(34, S_w_big), (85, S_s_DrawAngleOf), (86, S_i_AngleOf), (87, S_s_AngleOf), (88, S_i_StepsAbove), (89, S_s_StepsAbove), (90, S_i_HeadOver), (91, S_s_HeadOver), (92, S_i_OppositeSteps), (93, S_s_OppositeSteps), (94, S_i_SideOf), (95, S_s_SideOf), (96, S_i_HeightSpiral), (97, S_s_HeightSpiral), (98, S_i_CountSides), (99, S_s_CountSides), (100, S_i_TurnsOf), (101, S_s_TurnsOf), (23, S_w_wSame), (102, S_i_IsSpiral), (103, S_s_IsSpiral), (104, S_w_wIs), (105, S_w_wSum), (106, S_i_StepsAtSide), (24, S_w_wRises), (25, S_w_wHas), (107, S_i_AreOpposite), (108, S_i_ApartAround), (109, S_s_DrawApartAround), (110, S_s_ApartAround), (111, S_s_AreOpposite), (112, S_s_DrawStepsAtSide), (113, S_s_StepsAtSide), (114, S_s_DrawLeastRound), (115, S_i_LeastRound), (116, S_s_LeastRound)] [], body := bodyOf Try.f7, res := [.tmp 4], ins := [.ro kSuint8, .ro kSuint8], out := [(kbool, true)], T := Bool, fin := fun r => r.1.1, inj := fun t => ((t, ()), ((), (), ())), pts := [([.code [1, 1, 1, 1, 1, 1, 1, 1, 1, 1, 1, 1, 1, 1, 1, 1, 1, 1, 1, 1]], Shape.mk [Bs.row kuint8 5 false, Bs.box 71 [Cs.sc kint, Cs.sc kint, Cs.sc kint], Bs.row kint 3 true, Bs.row kint 3 true, Bs.row kint 3 true] [(1, Ss.one (Cs.sl 0)), (5, Ss.one (Cs.ptr 1 0)), (6, Ss.one (Cs.sc kint)), (7, Ss.one (Cs.sc kint)), (8, Ss.one (Cs.sc kint)), (9, Ss.one (Cs.sc kbool)), (13, Ss.one (Cs.sl 2)), (17, Ss.one (Cs.sc kint)), (21, Ss.one (Cs.sl 3)), (25, Ss.one (Cs.sc kstring)), (29, Ss.one (Cs.sc kint)), (33, Ss.one (Cs.sl 4)), (37, Ss.one (Cs.sc kint)), (38, Ss.one (Cs.sc kint)), (39, Ss.one (Cs.sc kbool))] [Ss.one (Cs.any), Ss.one (Cs.any)]), ([.code [1, 1, 1, 1, 1, 1, 1, 1, 1, 1, 1, 1, 1, 1, 1, 1, 1, 1, 1, 1, 1]], Shape.mk [Bs.row kuint8 5 false, Bs.box 71 [Cs.sc kint, Cs.sc kint, Cs.sc kint], Bs.row kint 3 true, Bs.row kint 3 true] [(1, Ss.one (Cs.sl 0)), (5, Ss.one (Cs.ptr 1 0)), (6, Ss.one (Cs.sc kint)), (7, Ss.one (Cs.sc kint)), (8, Ss.one (Cs.sc kint)), (9, Ss.one (Cs.sc kbool)), (13, Ss.one (Cs.sl 2)), (17, Ss.one (Cs.sc kint)), (21, Ss.one (Cs.sl 3)), (29, Ss.one (Cs.sc kint))] [Ss.one (Cs.any), Ss.one (Cs.any)]), ([.code [1, 1, 1, 1, 1, 1, 1, 1, 1, 1, 1, 1, 1, 1, 1, 1, 1, 1, 1, 1, 1, 1]], Shape.mk [Bs.row kuint8 5 false] [(1, Ss.one (Cs.sl 0))] [Ss.one (Cs.any), Ss.one (Cs.any)]), ([.code [1, 1, 1, 1, 1, 1, 1, 1, 1, 1, 1, 1, 1, 1, 1, 1, 1, 1, 1, 1, 1, 0, 1, 0, 1], .code [1, 1, 1, 1, 1, 1, 1, 1, 1, 1, 1, 1, 1, 1, 1, 1, 1, 1, 1, 1, 1, 1]], Shape.mk [Bs.row kuint8 5 false, Bs.box 71 [Cs.sc kint, Cs.sc kint, Cs.sc kint], Bs.row kint 3 true, Bs.row kint 3 true] [(1, Ss.one (Cs.sl 0)), (5, Ss.one (Cs.ptr 1 0)), (6, Ss.one (Cs.sc kint)), (7, Ss.one (Cs.sc kint)), (8, Ss.one (Cs.sc kint)), (13, Ss.one (Cs.sl 2)), (17, Ss.one (Cs.sc kint)), (21, Ss.one (Cs.sl 3)), (29, Ss.one (Cs.sc kint))] [Ss.one (Cs.any), Ss.one (Cs.any)]), ([.code [1, 1, 1, 1, 1, 1, 1, 1, 1, 1, 1, 1, 1, 1, 1, 1, 1, 1, 1, 1, 1, 0, 1, 0, 1, 1, 1, 0, 0, 1], .inLoop [1, 1, 1, 1, 1, 1, 1, 1, 1, 1, 1, 1, 1, 1, 1, 1, 1, 1, 1, 1, 1, 0, 1, 0, 1, 1, 1, 0, 0], .inBlock 4, .code [1, 1, 1, 1, 1, 1, 1, 1, 1, 1, 1, 1, 1, 1, 1, 1, 1, 1, 1, 1, 1, 1]], Shape.mk [Bs.row kuint8 5 false, Bs.box 71 [Cs.sc kint, Cs.sc kint, Cs.sc kint], Bs.row kint 3 true] [(1, Ss.one (Cs.sl 0)), (5, Ss.one (Cs.ptr 1 0)), (6, Ss.one (Cs.sc kint)), (21, Ss.one (Cs.sl 2)), (53, Ss.one (Cs.sc kint))] [Ss.one (Cs.any), Ss.one (Cs.any)]), ([.code [1, 1, 1, 1, 1, 1, 1, 1, 1, 1, 1, 1, 1, 1, 1, 1, 1, 1, 1, 1, 1, 1, 1, 1, 1, 1, 1, 1, 1, 1, 1, 1, 1, 1, 1]], Shape.mk [] [] [Ss.one (Cs.any), Ss.one (Cs.any)]), ([.inLoop [1, 1, 1, 1, 1, 1, 1, 1, 1, 1, 1, 1, 1, 1, 1, 1, 1, 1, 1, 1, 0, 1, 0, 1, 1, 0, 0], .inBlock 0, .code [1, 1, 1, 1, 1, 1, 1, 1, 1, 1, 1, 1, 1, 1, 1, 1, 1, 1, 1, 1, 1]], Shape.mk [Bs.row kuint8 5 false, Bs.box 71 [Cs.sc kint, Cs.sc kint, Cs.sc kint], Bs.row kint 3 true, Bs.row kint 3 true, Bs.row kint 3 true] [(1, Ss.one (Cs.sl 0)), (5, Ss.one (Cs.ptr 1 0)), (6, Ss.one (Cs.sc kint)), (7, Ss.one (Cs.sc kint)), (8, Ss.one (Cs.sc kint)), (9, Ss.one (Cs.sc kbool)), (13, Ss.one (Cs.sl 2)), (17, Ss.one (Cs.sc kint)), (21, Ss.one (Cs.sl 3)), (25, Ss.one (Cs.sc kstring)), (29, Ss.one (Cs.sc kint)), (33, Ss.one (Cs.sl 4)), (43, Ss.one (Cs.sc kint))] [Ss.one (Cs.any), Ss.one (Cs.any)]), ([.inLoop [1, 1, 1, 1, 1, 1, 1, 1, 1, 1, 1, 1, 1, 1, 1, 1, 1, 1, 1, 1, 1, 0, 1, 0, 1, 0, 1, 0, 0], .inBlock 2, .code [1, 1, 1, 1, 1, 1, 1, 1, 1, 1, 1, 1, 1, 1, 1, 1, 1, 1, 1, 1, 1, 0, 1, 0, 1, 1], .code [1, 1, 1, 1, 1, 1, 1, 1, 1, 1, 1, 1, 1, 1, 1, 1, 1, 1, 1, 1, 1, 1]], Shape.mk [Bs.row kuint8 5 false, Bs.box 71 [Cs.sc kint, Cs.sc kint, Cs.sc kint], Bs.row kint 3 true, Bs.row kint 3 true] [(1, Ss.one (Cs.sl 0)), (5, Ss.one (Cs.ptr 1 0)), (6, Ss.one (Cs.sc kint)), (7, Ss.one (Cs.sc kint)), (8, Ss.one (Cs.sc kint)), (17, Ss.one (Cs.sc kint)), (21, Ss.one (Cs.sl 2)), (29, Ss.one (Cs.sc kint)), (451, Ss.one (Cs.sl 3)), (452, Ss.one (Cs.sc kint)), (453, Ss.one (Cs.sc kint))] [Ss.one (Cs.any), Ss.one (Cs.any)]), ([.inLoop [1, 1, 1, 1, 1, 1, 1, 1, 1, 1, 1, 1, 1, 1, 1, 1, 1, 1, 1, 1, 1, 0, 1, 0, 1, 1, 1, 0, 0], .inBlock 4, .code [1, 1, 1, 1, 1, 1, 1, 1, 1, 1, 1, 1, 1, 1, 1, 1, 1, 1, 1, 1, 1, 1]], Shape.mk [Bs.row kuint8 5 false, Bs.box 71 [Cs.sc kint, Cs.sc kint, Cs.sc kint], Bs.row kint 3 true] [(1, Ss.one (Cs.sl 0)), (5, Ss.one (Cs.ptr 1 0)), (6, Ss.one (Cs.sc kint)), (21, Ss.one (Cs.sl 2)), (53, Ss.one (Cs.sc kint))] [Ss.one (Cs.any), Ss.one (Cs.any)])], fuel := 400, dr := evDr (env 712 [(34, S_w_big), (85, S_s_DrawAngleOf), (86, S_i_AngleOf), (87, S_s_AngleOf), (88, S_i_StepsAbove), (89, S_s_StepsAbove), (90, S_i_HeadOver), (91, S_s_HeadOver), (92, S_i_OppositeSteps), (93, S_s_OppositeSteps), (94, S_i_SideOf), (95, S_s_SideOf), (96, S_i_HeightSpiral), (97, S_s_HeightSpiral), (98, S_i_CountSides), (99, S_s_CountSides), (100, S_i_TurnsOf), (101, S_s_TurnsOf), (23, S_w_wSame), (102, S_i_IsSpiral), (103, S_s_IsSpiral), (104, S_w_wIs), (105, S_w_wSum), (106, S_i_StepsAtSide), (24, S_w_wRises), (25, S_w_wHas), (107, S_i_AreOpposite), (108, S_i_ApartAround), (109, S_s_DrawApartAround), (110, S_s_ApartAround), (111, S_s_AreOpposite), (112, S_s_DrawStepsAtSide), (113, S_s_StepsAtSide), (114, S_s_DrawLeastRound), (115, S_i_LeastRound), (116, S_s_LeastRound)] []) }
noncomputable def w_FnSpiralsTurn_t1 (g1 : List (Int) → Int → Int → Int → List (Int) → List (Int) → List (Int) → Int → Int → Int → Bool → Int → ByteArray → Int → Int → Int → Bool → Option (Bool)) (g2 : List (Int) → Int → Int → Int → List (Int) → List (Int) → Int → Int → Int → Bool → Int → Int → Option (Bool)) (g3 : List (Int) → Option (Bool)) (g4 : List (Int) → Int → Int → Int → List (Int) → List (Int) → Int → Int → Int → Int → Int → Option (Bool)) (g5 : List (Int) → Int → Int → Int → List (Int) → Int → Int → Option (Bool)) (g6 : Option (Bool)) (g7 : List (Int) → Int → Int → Int → List (Int) → List (Int) → List (Int) → Int → Int → Int → Bool → Int → ByteArray → Int → Int → Option (Bool)) (g8 : List (Int) → Int → Int → Int → List (Int) → List (Int) → Int → Int → Int → Int → Int → Int → Int → Option (Bool)) (g9 : List (Int) → Int → Int → Int → List (Int) → Int → Int → Option (Bool)) (r0 : List (Int)) (b1_0 : Int) (b1_1 : Int) (b1_2 : Int) (r2 : List (Int)) (r3 : List (Int)) (r4 : List (Int)) (step6 : Int) (num7 : Int) (den8 : Int) (ok9 : Bool) (head17 : Int) (side25 : ByteArray) (high29 : Int) (x37 : Int) (y38 : Int) (thirteen39 : Bool) : Option Bool :=
  bif thirteen39 then
    Option.bind (w_wIs x37 y38 (IntKind.wrap IntKind.i64 (b1_0 - 1)) b1_1) fun r =>
      bif !r then some false
      else
        bif (↑(List.length r4) : Int) != 4 then some false
        else Option.bind (w_wSum r4) fun r => bif r != b1_0 then some false else g7 r0 b1_0 b1_1 b1_2 r2 r3 r4 step6 num7 den8 ok9 head17 side25 high29 0
  else g2 r0 b1_0 b1_1 b1_2 r2 r3 step6 num7 den8 ok9 head17 high29
noncomputable def w_FnSpiralsTurn_t2 (g1 : List (Int) → Int → Int → Int → List (Int) → List (Int) → List (Int) → Int → Int → Int → Bool → Int → ByteArray → Int → Int → Int → Bool → Option (Bool)) (g2 : List (Int) → Int → Int → Int → List (Int) → List (Int) → Int → Int → Int → Bool → Int → Int → Option (Bool)) (g3 : List (Int) → Option (Bool)) (g4 : List (Int) → Int → Int → Int → List (Int) → List (Int) → Int → Int → Int → Int → Int → Option (Bool)) (g5 : List (Int) → Int → Int → Int → List (Int) → Int → Int → Option (Bool)) (g6 : Option (Bool)) (g7 : List (Int) → Int → Int → Int → List (Int) → List (Int) → List (Int) → Int → Int → Int → Bool → Int → ByteArray → Int → Int → Option (Bool)) (g8 : List (Int) → Int → Int → Int → List (Int) → List (Int) → Int → Int → Int → Int → Int → Int → Int → Option (Bool)) (g9 : List (Int) → Int → Int → Int → List (Int) → Int → Int → Option (Bool)) (r0 : List (Int)) (b1_0 : Int) (b1_1 : Int) (b1_2 : Int) (r2 : List (Int)) (r3 : List (Int)) (step6 : Int) (num7 : Int) (den8 : Int) (ok9 : Bool) (head17 : Int) (high29 : Int) : Option Bool :=
  bif ok9 then
    bif b1_1 == 0 then none
    else
      Option.bind (w_wIs num7 den8 (Int.tmod (IntKind.wrap IntKind.i64 (step6 - 1)) b1_1) b1_1) fun r =>
        bif !r then some false
        else
          bif decide (num7 ≥ den8) then
            bif decide (num7 > 0) then some false
            else
              bif high29 != IntKind.wrap IntKind.i64 (step6 * b1_2) then some false
              else
                Option.bind (w_wRises r3) fun r =>
                  bif !r then some false
                  else
                    bif Int.tmod b1_1 2 == 1 then bif (↑(List.length r3) : Int) != 0 then some false else g4 r0 b1_0 b1_1 b1_2 r2 r3 step6 num7 den8 head17 high29
                    else g4 r0 b1_0 b1_1 b1_2 r2 r3 step6 num7 den8 head17 high29
          else
            bif high29 != IntKind.wrap IntKind.i64 (step6 * b1_2) then some false
            else
              Option.bind (w_wRises r3) fun r =>
                bif !r then some false
                else
                  bif Int.tmod b1_1 2 == 1 then bif (↑(List.length r3) : Int) != 0 then some false else g4 r0 b1_0 b1_1 b1_2 r2 r3 step6 num7 den8 head17 high29
                  else g4 r0 b1_0 b1_1 b1_2 r2 r3 step6 num7 den8 head17 high29
  else g3 r0
noncomputable def w_FnSpiralsTurn_t3 (g1 : List (Int) → Int → Int → Int → List (Int) → List (Int) → List (Int) → Int → Int → Int → Bool → Int → ByteArray → Int → Int → Int → Bool → Option (Bool)) (g2 : List (Int) → Int → Int → Int → List (Int) → List (Int) → Int → Int → Int → Bool → Int → Int → Option (Bool)) (g3 : List (Int) → Option (Bool)) (g4 : List (Int) → Int → Int → Int → List (Int) → List (Int) → Int → Int → Int → Int → Int → Option (Bool)) (g5 : List (Int) → Int → Int → Int → List (Int) → Int → Int → Option (Bool)) (g6 : Option (Bool)) (g7 : List (Int) → Int → Int → Int → List (Int) → List (Int) → List (Int) → Int → Int → Int → Bool → Int → ByteArray → Int → Int → Option (Bool)) (g8 : List (Int) → Int → Int → Int → List (Int) → List (Int) → Int → Int → Int → Int → Int → Int → Int → Option (Bool)) (g9 : List (Int) → Int → Int → Int → List (Int) → Int → Int → Option (Bool)) (r0 : List (Int)) : Option Bool :=
  Option.bind (s_DrawApartAround r0) fun r =>
    Option.bind
      (i_ApartAround (Prod.fst (Prod.fst r)) (Prod.fst (Prod.snd (Prod.fst r))) (Prod.snd (Prod.snd (Prod.fst r))) (Prod.fst (Prod.snd r))
        (Prod.snd (Prod.snd r)))
      fun r_1 =>
      Option.bind
        (s_ApartAround (Prod.fst (Prod.fst r)) (Prod.fst (Prod.snd (Prod.fst r))) (Prod.snd (Prod.snd (Prod.fst r))) (Prod.fst (Prod.snd r))
          (Prod.snd (Prod.snd r)))
        fun r_2 =>
        Option.bind
          (i_AreOpposite (Prod.fst (Prod.fst r)) (Prod.fst (Prod.snd (Prod.fst r))) (Prod.snd (Prod.snd (Prod.fst r))) (Prod.fst (Prod.snd r))
            (Prod.snd (Prod.snd r)))
          fun r_3 =>
          Option.bind
            (s_AreOpposite (Prod.fst (Prod.fst r)) (Prod.fst (Prod.snd (Prod.fst r))) (Prod.snd (Prod.snd (Prod.fst r))) (Prod.fst (Prod.snd r))
              (Prod.snd (Prod.snd r)))
            fun r =>
            Option.bind (s_DrawStepsAtSide r0) fun r_4 =>
              Option.bind (i_StepsAtSide (Prod.fst (Prod.fst r_4)) (Prod.fst (Prod.snd (Prod.fst r_4))) (Prod.snd (Prod.snd (Prod.fst r_4))) (Prod.snd r_4))
                fun r_5 =>
                Option.bind (s_StepsAtSide (Prod.fst (Prod.fst r_4)) (Prod.fst (Prod.snd (Prod.fst r_4))) (Prod.snd (Prod.snd (Prod.fst r_4))) (Prod.snd r_4))
                  fun r_6 =>
                  Option.bind (s_DrawLeastRound r0) fun r_7 =>
                    Option.bind (i_LeastRound (Prod.fst r_7) (Prod.snd r_7)) fun r_8 =>
                      Option.bind (s_LeastRound (Prod.fst r_7) (Prod.snd r_7)) fun r_9 =>
                        bif !Prod.snd (Prod.snd r_1) == Prod.snd (Prod.snd r_2) then some false
                        else
                          bif Prod.fst r_1 != Prod.fst r_2 then some false
                          else
                            bif Prod.fst (Prod.snd r_1) != Prod.fst (Prod.snd r_2) then some false
                            else
                              bif !Prod.snd r_3 == Prod.snd r then some false
                              else
                                bif !Prod.fst r_3 == Prod.fst r then some false
                                else
                                  bif !Prod.snd r_5 == Prod.snd r_6 then some false
                                  else
                                    Option.bind (w_wSame (Prod.fst r_5) (Prod.fst r_6)) fun r =>
                                      bif !r then some false
                                      else
                                        bif !Prod.snd r_8 == Prod.snd r_9 then some false
                                        else
                                          bif Prod.fst r_8 != Prod.fst r_9 then some false
                                          else
                                            bif !Prod.snd r_3 == Prod.snd (Prod.snd r_1) then some false
                                            else
                                              bif Prod.snd r_8 then
                                                bif decide (Prod.fst r_8 < 3) then some false
                                                else
                                                  bif decide (IntKind.wrap IntKind.i64 (Prod.fst r_8 * Prod.fst r_7) < Prod.snd r_7) then some false
                                                  else
                                                    bif decide (Prod.fst r_8 > 3) then
                                                      bif
                                                          decide
                                                            (IntKind.wrap IntKind.i64 (IntKind.wrap IntKind.i64 (Prod.fst r_8 - 1) * Prod.fst r_7) ≥
                                                              Prod.snd r_7) then
                                                        some false
                                                      else g6
                                                    else g6
                                              else g6
noncomputable def w_FnSpiralsTurn_t4 (g1 : List (Int) → Int → Int → Int → List (Int) → List (Int) → List (Int) → Int → Int → Int → Bool → Int → ByteArray → Int → Int → Int → Bool → Option (Bool)) (g2 : List (Int) → Int → Int → Int → List (Int) → List (Int) → Int → Int → Int → Bool → Int → Int → Option (Bool)) (g3 : List (Int) → Option (Bool)) (g4 : List (Int) → Int → Int → Int → List (Int) → List (Int) → Int → Int → Int → Int → Int → Option (Bool)) (g5 : List (Int) → Int → Int → Int → List (Int) → Int → Int → Option (Bool)) (g6 : Option (Bool)) (g7 : List (Int) → Int → Int → Int → List (Int) → List (Int) → List (Int) → Int → Int → Int → Bool → Int → ByteArray → Int → Int → Option (Bool)) (g8 : List (Int) → Int → Int → Int → List (Int) → List (Int) → Int → Int → Int → Int → Int → Int → Int → Option (Bool)) (g9 : List (Int) → Int → Int → Int → List (Int) → Int → Int → Option (Bool)) (r0 : List (Int)) (b1_0 : Int) (b1_1 : Int) (b1_2 : Int) (r2 : List (Int)) (r3 : List (Int)) (step6 : Int) (num7 : Int) (den8 : Int) (head17 : Int) (high29 : Int) : Option Bool :=
  g8 r0 b1_0 b1_1 b1_2 r3 r2 step6 num7 den8 head17 high29 (↑(List.length r2) : Int) 0
noncomputable def w_FnSpiralsTurn_t5 (g1 : List (Int) → Int → Int → Int → List (Int) → List (Int) → List (Int) → Int → Int → Int → Bool → Int → ByteArray → Int → Int → Int → Bool → Option (Bool)) (g2 : List (Int) → Int → Int → Int → List (Int) → List (Int) → Int → Int → Int → Bool → Int → Int → Option (Bool)) (g3 : List (Int) → Option (Bool)) (g4 : List (Int) → Int → Int → Int → List (Int) → List (Int) → Int → Int → Int → Int → Int → Option (Bool)) (g5 : List (Int) → Int → Int → Int → List (Int) → Int → Int → Option (Bool)) (g6 : Option (Bool)) (g7 : List (Int) → Int → Int → Int → List (Int) → List (Int) → List (Int) → Int → Int → Int → Bool → Int → ByteArray → Int → Int → Option (Bool)) (g8 : List (Int) → Int → Int → Int → List (Int) → List (Int) → Int → Int → Int → Int → Int → Int → Int → Option (Bool)) (g9 : List (Int) → Int → Int → Int → List (Int) → Int → Int → Option (Bool)) (r0 : List (Int)) (b1_0 : Int) (b1_1 : Int) (b1_2 : Int) (r2 : List (Int)) (step6 : Int) (n53 : Int) : Option Bool :=
  Option.bind (i_AreOpposite b1_0 b1_1 b1_2 step6 n53) fun r =>
    Option.bind (i_ApartAround b1_0 b1_1 b1_2 step6 n53) fun r_1 =>
      bif !Prod.snd r then some false
      else
        Option.bind (w_wHas r2 n53) fun r_2 =>
          bif !Prod.fst r == r_2 then some false
          else
            bif !Prod.snd (Prod.snd r_1) then some false
            else
              bif Prod.fst r_1 == 1 then
                bif !Prod.fst r == (Prod.fst (Prod.snd r_1) == 2) then some false
                else
                  bif decide (IntKind.wrap IntKind.i64 (2 * Prod.fst r_1) > Prod.fst (Prod.snd r_1)) then some false
                  else g9 r0 b1_0 b1_1 b1_2 r2 step6 (IntKind.wrap IntKind.i64 (n53 + 1))
              else
                bif !Prod.fst r == false then some false
                else
                  bif decide (IntKind.wrap IntKind.i64 (2 * Prod.fst r_1) > Prod.fst (Prod.snd r_1)) then some false
                  else g9 r0 b1_0 b1_1 b1_2 r2 step6 (IntKind.wrap IntKind.i64 (n53 + 1))
noncomputable def w_FnSpiralsTurn_t6 (g1 : List (Int) → Int → Int → Int → List (Int) → List (Int) → List (Int) → Int → Int → Int → Bool → Int → ByteArray → Int → Int → Int → Bool → Option (Bool)) (g2 : List (Int) → Int → Int → Int → List (Int) → List (Int) → Int → Int → Int → Bool → Int → Int → Option (Bool)) (g3 : List (Int) → Option (Bool)) (g4 : List (Int) → Int → Int → Int → List (Int) → List (Int) → Int → Int → Int → Int → Int → Option (Bool)) (g5 : List (Int) → Int → Int → Int → List (Int) → Int → Int → Option (Bool)) (g6 : Option (Bool)) (g7 : List (Int) → Int → Int → Int → List (Int) → List (Int) → List (Int) → Int → Int → Int → Bool → Int → ByteArray → Int → Int → Option (Bool)) (g8 : List (Int) → Int → Int → Int → List (Int) → List (Int) → Int → Int → Int → Int → Int → Int → Int → Option (Bool)) (g9 : List (Int) → Int → Int → Int → List (Int) → Int → Int → Option (Bool))  : Option Bool :=
  some true
noncomputable def w_FnSpiralsTurn_t7 (g1 : List (Int) → Int → Int → Int → List (Int) → List (Int) → List (Int) → Int → Int → Int → Bool → Int → ByteArray → Int → Int → Int → Bool → Option (Bool)) (g2 : List (Int) → Int → Int → Int → List (Int) → List (Int) → Int → Int → Int → Bool → Int → Int → Option (Bool)) (g3 : List (Int) → Option (Bool)) (g4 : List (Int) → Int → Int → Int → List (Int) → List (Int) → Int → Int → Int → Int → Int → Option (Bool)) (g5 : List (Int) → Int → Int → Int → List (Int) → Int → Int → Option (Bool)) (g6 : Option (Bool)) (g7 : List (Int) → Int → Int → Int → List (Int) → List (Int) → List (Int) → Int → Int → Int → Bool → Int → ByteArray → Int → Int → Option (Bool)) (g8 : List (Int) → Int → Int → Int → List (Int) → List (Int) → Int → Int → Int → Int → Int → Int → Int → Option (Bool)) (g9 : List (Int) → Int → Int → Int → List (Int) → Int → Int → Option (Bool)) (r0 : List (Int)) (b1_0 : Int) (b1_1 : Int) (b1_2 : Int) (r2 : List (Int)) (r3 : List (Int)) (r4 : List (Int)) (step6 : Int) (num7 : Int) (den8 : Int) (ok9 : Bool) (head17 : Int) (side25 : ByteArray) (high29 : Int) (k43 : Int) : Option Bool :=
  bif decide (k43 < 4) then
    bif decide (0 ≤ IntKind.wrap IntKind.i64 (k43 + 1)) then
      bif decide (IntKind.wrap IntKind.i64 (k43 + 1) ≤ (↑(ByteArray.size { data := #[110, 101, 115, 119] }) : Int)) then
        bif decide (0 ≤ k43) then
          bif decide (k43 ≤ IntKind.wrap IntKind.i64 (k43 + 1)) then
            Option.bind
              (i_StepsAtSide b1_0 b1_1 b1_2
                (ByteArray.extract { data := #[110, 101, 115, 119] } (Int.toNat k43) (Int.toNat (IntKind.wrap IntKind.i64 (k43 + 1)))))
              fun r =>
              bif !Prod.snd r then some false
              else
                bif decide (0 ≤ k43) then
                  bif decide (k43 < (↑(List.length r4) : Int)) then
                    bif (↑(List.length (Prod.fst r)) : Int) != rdk kint r4 k43 then some false
                    else
                      Option.bind (w_wRises (Prod.fst r)) fun r_1 =>
                        bif !r_1 then some false
                        else
                          bif ok9 then
                            Option.bind (w_wHas (Prod.fst r) step6) fun r =>
                              bif decide (0 ≤ IntKind.wrap IntKind.i64 (k43 + 1)) then
                                bif decide (IntKind.wrap IntKind.i64 (k43 + 1) ≤ (↑(ByteArray.size { data := #[110, 101, 115, 119] }) : Int)) then
                                  bif decide (0 ≤ k43) then
                                    bif decide (k43 ≤ IntKind.wrap IntKind.i64 (k43 + 1)) then
                                      bif
                                          !r ==
                                              (ByteArray.toList side25 ==
                                                ByteArray.toList
                                                  (ByteArray.extract { data := #[110, 101, 115, 119] } (Int.toNat k43)
                                                    (Int.toNat (IntKind.wrap IntKind.i64 (k43 + 1))))) then
                                        some false
                                      else g7 r0 b1_0 b1_1 b1_2 r2 r3 r4 step6 num7 den8 ok9 head17 side25 high29 (IntKind.wrap IntKind.i64 (k43 + 1))
                                    else none
                                  else none
                                else none
                              else none
                          else g7 r0 b1_0 b1_1 b1_2 r2 r3 r4 step6 num7 den8 ok9 head17 side25 high29 (IntKind.wrap IntKind.i64 (k43 + 1))
                  else none
                else none
          else none
        else none
      else none
    else none
  else g2 r0 b1_0 b1_1 b1_2 r2 r3 step6 num7 den8 ok9 head17 high29
noncomputable def w_FnSpiralsTurn_t8 (g1 : List (Int) → Int → Int → Int → List (Int) → List (Int) → List (Int) → Int → Int → Int → Bool → Int → ByteArray → Int → Int → Int → Bool → Option (Bool)) (g2 : List (Int) → Int → Int → Int → List (Int) → List (Int) → Int → Int → Int → Bool → Int → Int → Option (Bool)) (g3 : List (Int) → Option (Bool)) (g4 : List (Int) → Int → Int → Int → List (Int) → List (Int) → Int → Int → Int → Int → Int → Option (Bool)) (g5 : List (Int) → Int → Int → Int → List (Int) → Int → Int → Option (Bool)) (g6 : Option (Bool)) (g7 : List (Int) → Int → Int → Int → List (Int) → List (Int) → List (Int) → Int → Int → Int → Bool → Int → ByteArray → Int → Int → Option (Bool)) (g8 : List (Int) → Int → Int → Int → List (Int) → List (Int) → Int → Int → Int → Int → Int → Int → Int → Option (Bool)) (g9 : List (Int) → Int → Int → Int → List (Int) → Int → Int → Option (Bool)) (r0 : List (Int)) (b1_0 : Int) (b1_1 : Int) (b1_2 : Int) (r2 : List (Int)) (r3 : List (Int)) (step6 : Int) (num7 : Int) (den8 : Int) (head17 : Int) (high29 : Int) (s452 : Int) (s453 : Int) : Option Bool :=
  bif decide (s453 < s452) then
    bif decide (0 ≤ s453) then
      bif decide (s453 < (↑(List.length r3) : Int)) then
        Option.bind (i_AngleOf b1_0 b1_1 b1_2 (rdk kint r3 s453)) fun r =>
          Option.bind (i_HeightSpiral b1_0 b1_1 b1_2 (rdk kint r3 s453)) fun r_1 =>
            bif rdk kint r3 s453 != IntKind.wrap IntKind.i64 (step6 + IntKind.wrap IntKind.i64 (IntKind.wrap IntKind.i64 (s453 + 1) * b1_1)) then
              some false
            else
              bif decide (rdk kint r3 s453 > b1_0) then some false
              else
                bif !Prod.snd (Prod.snd r) then some false
                else
                  bif Prod.fst r != num7 then some false
                  else
                    bif Prod.fst (Prod.snd r) != den8 then some false
                    else
                      bif !Prod.snd r_1 then some false
                      else
                        bif IntKind.wrap IntKind.i64 (Prod.fst r_1 - high29) != IntKind.wrap IntKind.i64 (IntKind.wrap IntKind.i64 (s453 + 1) * head17) then
                          some false
                        else g8 r0 b1_0 b1_1 b1_2 r2 r3 step6 num7 den8 head17 high29 s452 (IntKind.wrap IntKind.i64 (s453 + 1))
      else none
    else none
  else g9 r0 b1_0 b1_1 b1_2 r2 step6 1
noncomputable def w_FnSpiralsTurn_t9 (g1 : List (Int) → Int → Int → Int → List (Int) → List (Int) → List (Int) → Int → Int → Int → Bool → Int → ByteArray → Int → Int → Int → Bool → Option (Bool)) (g2 : List (Int) → Int → Int → Int → List (Int) → List (Int) → Int → Int → Int → Bool → Int → Int → Option (Bool)) (g3 : List (Int) → Option (Bool)) (g4 : List (Int) → Int → Int → Int → List (Int) → List (Int) → Int → Int → Int → Int → Int → Option (Bool)) (g5 : List (Int) → Int → Int → Int → List (Int) → Int → Int → Option (Bool)) (g6 : Option (Bool)) (g7 : List (Int) → Int → Int → Int → List (Int) → List (Int) → List (Int) → Int → Int → Int → Bool → Int → ByteArray → Int → Int → Option (Bool)) (g8 : List (Int) → Int → Int → Int → List (Int) → List (Int) → Int → Int → Int → Int → Int → Int → Int → Option (Bool)) (g9 : List (Int) → Int → Int → Int → List (Int) → Int → Int → Option (Bool)) (r0 : List (Int)) (b1_0 : Int) (b1_1 : Int) (b1_2 : Int) (r2 : List (Int)) (step6 : Int) (n53 : Int) : Option Bool :=
  bif decide (n53 ≤ b1_0) then bif decide (n53 ≤ 40) then g5 r0 b1_0 b1_1 b1_2 r2 step6 n53 else g3 r0 else g3 r0
noncomputable def w_FnSpiralsTurn_t0 (g1 : List (Int) → Int → Int → Int → List (Int) → List (Int) → List (Int) → Int → Int → Int → Bool → Int → ByteArray → Int → Int → Int → Bool → Option (Bool)) (g2 : List (Int) → Int → Int → Int → List (Int) → List (Int) → Int → Int → Int → Bool → Int → Int → Option (Bool)) (g3 : List (Int) → Option (Bool)) (g4 : List (Int) → Int → Int → Int → List (Int) → List (Int) → Int → Int → Int → Int → Int → Option (Bool)) (g5 : List (Int) → Int → Int → Int → List (Int) → Int → Int → Option (Bool)) (g6 : Option (Bool)) (g7 : List (Int) → Int → Int → Int → List (Int) → List (Int) → List (Int) → Int → Int → Int → Bool → Int → ByteArray → Int → Int → Option (Bool)) (g8 : List (Int) → Int → Int → Int → List (Int) → List (Int) → Int → Int → Int → Int → Int → Int → Int → Option (Bool)) (g9 : List (Int) → Int → Int → Int → List (Int) → Int → Int → Option (Bool)) (code0 : List Int) (more1 : List Int) : Option Bool :=
  bif w_big code0 more1 then some true
  else
    Option.bind (s_DrawAngleOf code0) fun r =>
      Option.bind (i_AngleOf (Prod.fst (Prod.fst r)) (Prod.fst (Prod.snd (Prod.fst r))) (Prod.snd (Prod.snd (Prod.fst r))) (Prod.snd r)) fun r_1 =>
        Option.bind (s_AngleOf (Prod.fst (Prod.fst r)) (Prod.fst (Prod.snd (Prod.fst r))) (Prod.snd (Prod.snd (Prod.fst r))) (Prod.snd r)) fun r_2 =>
          Option.bind (i_StepsAbove (Prod.fst (Prod.fst r)) (Prod.fst (Prod.snd (Prod.fst r))) (Prod.snd (Prod.snd (Prod.fst r))) (Prod.snd r)) fun r_3 =>
            Option.bind (s_StepsAbove (Prod.fst (Prod.fst r)) (Prod.fst (Prod.snd (Prod.fst r))) (Prod.snd (Prod.snd (Prod.fst r))) (Prod.snd r)) fun r_4 =>
              Option.bind (i_HeadOver (Prod.fst (Prod.fst r)) (Prod.fst (Prod.snd (Prod.fst r))) (Prod.snd (Prod.snd (Prod.fst r))) (Prod.snd r)) fun r_5 =>
                Option.bind (i_OppositeSteps (Prod.fst (Prod.fst r)) (Prod.fst (Prod.snd (Prod.fst r))) (Prod.snd (Prod.snd (Prod.fst r))) (Prod.snd r))
                  fun r_6 =>
                  Option.bind (s_OppositeSteps (Prod.fst (Prod.fst r)) (Prod.fst (Prod.snd (Prod.fst r))) (Prod.snd (Prod.snd (Prod.fst r))) (Prod.snd r))
                    fun r_7 =>
                    Option.bind (i_SideOf (Prod.fst (Prod.fst r)) (Prod.fst (Prod.snd (Prod.fst r))) (Prod.snd (Prod.snd (Prod.fst r))) (Prod.snd r)) fun r_8 =>
                      Option.bind (s_SideOf (Prod.fst (Prod.fst r)) (Prod.fst (Prod.snd (Prod.fst r))) (Prod.snd (Prod.snd (Prod.fst r))) (Prod.snd r)) fun r_9 =>
                        Option.bind (i_HeightSpiral (Prod.fst (Prod.fst r)) (Prod.fst (Prod.snd (Prod.fst r))) (Prod.snd (Prod.snd (Prod.fst r))) (Prod.snd r))
                          fun r_10 =>
                          Option.bind (i_CountSides (Prod.fst (Prod.fst r)) (Prod.fst (Prod.snd (Prod.fst r))) (Prod.snd (Prod.snd (Prod.fst r)))) fun r_11 =>
                            Option.bind (s_CountSides (Prod.fst (Prod.fst r)) (Prod.fst (Prod.snd (Prod.fst r))) (Prod.snd (Prod.snd (Prod.fst r)))) fun r_12 =>
                              Option.bind (i_TurnsOf (Prod.fst (Prod.fst r)) (Prod.fst (Prod.snd (Prod.fst r))) (Prod.snd (Prod.snd (Prod.fst r)))) fun r_13 =>
                                Option.bind (s_TurnsOf (Prod.fst (Prod.fst r)) (Prod.fst (Prod.snd (Prod.fst r))) (Prod.snd (Prod.snd (Prod.fst r)))) fun r_14 =>
                                  bif !Prod.snd (Prod.snd r_1) == Prod.snd (Prod.snd r_2) then some false
                                  else
                                    bif Prod.fst r_1 != Prod.fst r_2 then some false
                                    else
                                      bif Prod.fst (Prod.snd r_1) != Prod.fst (Prod.snd r_2) then some false
                                      else
                                        bif !Prod.snd r_3 == Prod.snd r_4 then some false
                                        else
                                          Option.bind (w_wSame (Prod.fst r_3) (Prod.fst r_4)) fun r_15 =>
                                            bif !r_15 then some false
                                            else
                                              bif
                                                  !Prod.snd r_5 ==
                                                      Prod.snd
                                                        (s_HeadOver (Prod.fst (Prod.fst r)) (Prod.fst (Prod.snd (Prod.fst r))) (Prod.snd (Prod.snd (Prod.fst r)))
                                                          (Prod.snd r)) then
                                                some false
                                              else
                                                bif
                                                    Prod.fst r_5 !=
                                                      Prod.fst
                                                        (s_HeadOver (Prod.fst (Prod.fst r)) (Prod.fst (Prod.snd (Prod.fst r))) (Prod.snd (Prod.snd (Prod.fst r)))
                                                          (Prod.snd r)) then
                                                  some false
                                                else
                                                  bif !Prod.snd r_6 == Prod.snd r_7 then some false
                                                  else
                                                    Option.bind (w_wSame (Prod.fst r_6) (Prod.fst r_7)) fun r_16 =>
                                                      bif !r_16 then some false
                                                      else
                                                        bif !Prod.snd r_8 == Prod.snd r_9 then some false
                                                        else
                                                          bif !ByteArray.toList (Prod.fst r_8) == ByteArray.toList (Prod.fst r_9) then some false
                                                          else
                                                            bif
                                                                !Prod.snd r_10 ==
                                                                    Prod.snd
                                                                      (s_HeightSpiral (Prod.fst (Prod.fst r)) (Prod.fst (Prod.snd (Prod.fst r)))
                                                                        (Prod.snd (Prod.snd (Prod.fst r))) (Prod.snd r)) then
                                                              some false
                                                            else
                                                              bif
                                                                  Prod.fst r_10 !=
                                                                    Prod.fst
                                                                      (s_HeightSpiral (Prod.fst (Prod.fst r)) (Prod.fst (Prod.snd (Prod.fst r)))
                                                                        (Prod.snd (Prod.snd (Prod.fst r))) (Prod.snd r)) then
                                                                some false
                                                              else
                                                                bif !Prod.snd r_11 == Prod.snd r_12 then some false
                                                                else
                                                                  Option.bind (w_wSame (Prod.fst r_11) (Prod.fst r_12)) fun r_17 =>
                                                                    bif !r_17 then some false
                                                                    else
                                                                      bif !Prod.snd (Prod.snd r_13) == Prod.snd (Prod.snd r_14) then some false
                                                                      else
                                                                        bif Prod.fst r_13 != Prod.fst r_14 then some false
                                                                        else
                                                                          bif Prod.fst (Prod.snd r_13) != Prod.fst (Prod.snd r_14) then some false
                                                                          else
                                                                            bif !Prod.snd r_3 == Prod.snd (Prod.snd r_1) then some false
                                                                            else
                                                                              bif !Prod.snd r_6 == Prod.snd (Prod.snd r_1) then some false
                                                                              else
                                                                                bif !Prod.snd r_8 == Prod.snd (Prod.snd r_1) then some false
                                                                                else
                                                                                  bif !Prod.snd r_10 == Prod.snd (Prod.snd r_1) then some false
                                                                                  else
                                                                                    bif
                                                                                        !Prod.snd (Prod.snd r_13) ==
                                                                                            i_IsSpiral (Prod.fst (Prod.fst r)) (Prod.fst (Prod.snd (Prod.fst r)))
                                                                                              (Prod.snd (Prod.snd (Prod.fst r))) then
                                                                                      some false
                                                                                    else
                                                                                      bif
                                                                                          !i_IsSpiral (Prod.fst (Prod.fst r)) (Prod.fst (Prod.snd (Prod.fst r)))
                                                                                                (Prod.snd (Prod.snd (Prod.fst r))) ==
                                                                                              s_IsSpiral (Prod.fst (Prod.fst r))
                                                                                                (Prod.fst (Prod.snd (Prod.fst r)))
                                                                                                (Prod.snd (Prod.snd (Prod.fst r))) then
                                                                                        some false
                                                                                      else
                                                                                        bif !Prod.snd r_11 == Prod.snd (Prod.snd r_13) then some false
                                                                                        else
                                                                                          bif Prod.snd (Prod.snd r_13) then
                                                                                            bif decide (Prod.snd r ≥ 1) then
                                                                                              bif
                                                                                                  !Prod.snd (Prod.snd r_1) ==
                                                                                                      decide (Prod.snd r ≤ Prod.fst (Prod.fst r)) then
                                                                                                some false
                                                                                              else
                                                                                                bif Prod.snd r_3 then
                                                                                                  bif
                                                                                                      !Prod.snd r_5 ==
                                                                                                          decide ((↑(List.length (Prod.fst r_3)) : Int) > 0) then
                                                                                                    some false
                                                                                                  else
                                                                                                    g1 more1 (Prod.fst (Prod.fst r))
                                                                                                      (Prod.fst (Prod.snd (Prod.fst r)))
                                                                                                      (Prod.snd (Prod.snd (Prod.fst r))) (Prod.fst r_3)
                                                                                                      (Prod.fst r_6) (Prod.fst r_11) (Prod.snd r) (Prod.fst r_1)
                                                                                                      (Prod.fst (Prod.snd r_1)) (Prod.snd (Prod.snd r_1))
                                                                                                      (Prod.fst r_5) (Prod.fst r_8) (Prod.fst r_10)
                                                                                                      (Prod.fst r_13) (Prod.fst (Prod.snd r_13))
                                                                                                      (Prod.snd (Prod.snd r_13))
                                                                                                else
                                                                                                  bif !Prod.snd r_5 == false then some false
                                                                                                  else
                                                                                                    g1 more1 (Prod.fst (Prod.fst r))
                                                                                                      (Prod.fst (Prod.snd (Prod.fst r)))
                                                                                                      (Prod.snd (Prod.snd (Prod.fst r))) (Prod.fst r_3)
                                                                                                      (Prod.fst r_6) (Prod.fst r_11) (Prod.snd r) (Prod.fst r_1)
                                                                                                      (Prod.fst (Prod.snd r_1)) (Prod.snd (Prod.snd r_1))
                                                                                                      (Prod.fst r_5) (Prod.fst r_8) (Prod.fst r_10)
                                                                                                      (Prod.fst r_13) (Prod.fst (Prod.snd r_13))
                                                                                                      (Prod.snd (Prod.snd r_13))
                                                                                            else
                                                                                              bif !Prod.snd (Prod.snd r_1) == false then some false
                                                                                              else
                                                                                                bif Prod.snd r_3 then
                                                                                                  bif
                                                                                                      !Prod.snd r_5 ==
                                                                                                          decide ((↑(List.length (Prod.fst r_3)) : Int) > 0) then
                                                                                                    some false
                                                                                                  else
                                                                                                    g1 more1 (Prod.fst (Prod.fst r))
                                                                                                      (Prod.fst (Prod.snd (Prod.fst r)))
                                                                                                      (Prod.snd (Prod.snd (Prod.fst r))) (Prod.fst r_3)
                                                                                                      (Prod.fst r_6) (Prod.fst r_11) (Prod.snd r) (Prod.fst r_1)
                                                                                                      (Prod.fst (Prod.snd r_1)) (Prod.snd (Prod.snd r_1))
                                                                                                      (Prod.fst r_5) (Prod.fst r_8) (Prod.fst r_10)
                                                                                                      (Prod.fst r_13) (Prod.fst (Prod.snd r_13))
                                                                                                      (Prod.snd (Prod.snd r_13))
                                                                                                else
                                                                                                  bif !Prod.snd r_5 == false then some false
                                                                                                  else
                                                                                                    g1 more1 (Prod.fst (Prod.fst r))
                                                                                                      (Prod.fst (Prod.snd (Prod.fst r)))
                                                                                                      (Prod.snd (Prod.snd (Prod.fst r))) (Prod.fst r_3)
                                                                                                      (Prod.fst r_6) (Prod.fst r_11) (Prod.snd r) (Prod.fst r_1)
                                                                                                      (Prod.fst (Prod.snd r_1)) (Prod.snd (Prod.snd r_1))
                                                                                                      (Prod.fst r_5) (Prod.fst r_8) (Prod.fst r_10)
                                                                                                      (Prod.fst r_13) (Prod.fst (Prod.snd r_13))
                                                                                                      (Prod.snd (Prod.snd r_13))
                                                                                          else
                                                                                            bif !Prod.snd (Prod.snd r_1) == false then some false
                                                                                            else
                                                                                              bif Prod.snd r_3 then
                                                                                                bif
                                                                                                    !Prod.snd r_5 ==
                                                                                                        decide ((↑(List.length (Prod.fst r_3)) : Int) > 0) then
                                                                                                  some false
                                                                                                else
                                                                                                  g1 more1 (Prod.fst (Prod.fst r))
                                                                                                    (Prod.fst (Prod.snd (Prod.fst r)))
                                                                                                    (Prod.snd (Prod.snd (Prod.fst r))) (Prod.fst r_3)
                                                                                                    (Prod.fst r_6) (Prod.fst r_11) (Prod.snd r) (Prod.fst r_1)
                                                                                                    (Prod.fst (Prod.snd r_1)) (Prod.snd (Prod.snd r_1))
                                                                                                    (Prod.fst r_5) (Prod.fst r_8) (Prod.fst r_10) (Prod.fst r_13)
                                                                                                    (Prod.fst (Prod.snd r_13)) (Prod.snd (Prod.snd r_13))
                                                                                              else
                                                                                                bif !Prod.snd r_5 == false then some false
                                                                                                else
                                                                                                  g1 more1 (Prod.fst (Prod.fst r))
                                                                                                    (Prod.fst (Prod.snd (Prod.fst r)))
                                                                                                    (Prod.snd (Prod.snd (Prod.fst r))) (Prod.fst r_3)
                                                                                                    (Prod.fst r_6) (Prod.fst r_11) (Prod.snd r) (Prod.fst r_1)
                                                                                                    (Prod.fst (Prod.snd r_1)) (Prod.snd (Prod.snd r_1))
                                                                                                    (Prod.fst r_5) (Prod.fst r_8) (Prod.fst r_10) (Prod.fst r_13)
                                                                                                    (Prod.fst (Prod.snd r_13)) (Prod.snd (Prod.snd r_13))
theorem w_FnSpiralsTurn_ts : Tails c_w_FnSpiralsTurn.pts c_w_FnSpiralsTurn.round :=
  ⟨fun s => by
    obtain ⟨⟨r0, ⟨b1_0, b1_1, b1_2, _⟩, r2, r3, r4, _⟩, ⟨_, _, step6, num7, den8, ok9, _, head17, _, side25, high29, _, x37, y38, thirteen39, _⟩, ⟨_, _, _⟩⟩ := s
    refine Tail.eq (Y := fun g => w_FnSpiralsTurn_t1 (fun r0 b1_0 b1_1 b1_2 r2 r3 r4 step6 num7 den8 ok9 head17 side25 high29 x37 y38 thirteen39 => g.1 ((r0, (b1_0, b1_1, b1_2, ()), r2, r3, r4, ()), ((), (), step6, num7, den8, ok9, (), head17, (), side25, high29, (), x37, y38, thirteen39, ()), ((), (), ()))) (fun r0 b1_0 b1_1 b1_2 r2 r3 step6 num7 den8 ok9 head17 high29 => g.2.1 ((r0, (b1_0, b1_1, b1_2, ()), r2, r3, ()), ((), (), step6, num7, den8, ok9, (), head17, (), high29, ()), ((), (), ()))) (fun r0 => g.2.2.1 ((r0, ()), ((), ()), ((), (), ()))) (fun r0 b1_0 b1_1 b1_2 r2 r3 step6 num7 den8 head17 high29 => g.2.2.2.1 ((r0, (b1_0, b1_1, b1_2, ()), r2, r3, ()), ((), (), step6, num7, den8, (), head17, (), high29, ()), ((), (), ()))) (fun r0 b1_0 b1_1 b1_2 r2 step6 n53 => g.2.2.2.2.1 ((r0, (b1_0, b1_1, b1_2, ()), r2, ()), ((), (), step6, (), n53, ()), ((), (), ()))) (g.2.2.2.2.2.1 ((), (), ((), (), ()))) (fun r0 b1_0 b1_1 b1_2 r2 r3 r4 step6 num7 den8 ok9 head17 side25 high29 k43 => g.2.2.2.2.2.2.1 ((r0, (b1_0, b1_1, b1_2, ()), r2, r3, r4, ()), ((), (), step6, num7, den8, ok9, (), head17, (), side25, high29, (), k43, ()), ((), (), ()))) (fun r0 b1_0 b1_1 b1_2 r2 r3 step6 num7 den8 head17 high29 s452 s453 => g.2.2.2.2.2.2.2.1 ((r0, (b1_0, b1_1, b1_2, ()), r2, r3, ()), ((), (), step6, num7, den8, head17, (), high29, (), s452, s453, ()), ((), (), ()))) (fun r0 b1_0 b1_1 b1_2 r2 step6 n53 => g.2.2.2.2.2.2.2.2.1 ((r0, (b1_0, b1_1, b1_2, ()), r2, ()), ((), (), step6, (), n53, ()), ((), (), ()))) r0 b1_0 b1_1 b1_2 r2 r3 r4 step6 num7 den8 ok9 head17 side25 high29 x37 y38 thirteen39) ?_ (fun g => by kernel_rfl)
    simp only [w_FnSpiralsTurn_t1]; repeat (first | apply Tail.cond | (apply Tail.bind; intro _) | exact Tail.here _ | exact Tail.there (Tail.here _) | exact Tail.there (Tail.there (Tail.here _)) | exact Tail.there (Tail.there (Tail.there (Tail.here _))) | exact Tail.there (Tail.there (Tail.there (Tail.there (Tail.here _)))) | exact Tail.there (Tail.there (Tail.there (Tail.there (Tail.there (Tail.here _))))) | exact Tail.there (Tail.there (Tail.there (Tail.there (Tail.there (Tail.there (Tail.here _)))))) | exact Tail.there (Tail.there (Tail.there (Tail.there (Tail.there (Tail.there (Tail.there (Tail.here _))))))) | exact Tail.there (Tail.there (Tail.there (Tail.there (Tail.there (Tail.there (Tail.there (Tail.there (Tail.here _)))))))) | exact Tail.const _),
  fun s => by
    obtain ⟨⟨r0, ⟨b1_0, b1_1, b1_2, _⟩, r2, r3, _⟩, ⟨_, _, step6, num7, den8, ok9, _, head17, _, high29, _⟩, ⟨_, _, _⟩⟩ := s
    refine Tail.eq (Y := fun g => w_FnSpiralsTurn_t2 (fun r0 b1_0 b1_1 b1_2 r2 r3 r4 step6 num7 den8 ok9 head17 side25 high29 x37 y38 thirteen39 => g.1 ((r0, (b1_0, b1_1, b1_2, ()), r2, r3, r4, ()), ((), (), step6, num7, den8, ok9, (), head17, (), side25, high29, (), x37, y38, thirteen39, ()), ((), (), ()))) (fun r0 b1_0 b1_1 b1_2 r2 r3 step6 num7 den8 ok9 head17 high29 => g.2.1 ((r0, (b1_0, b1_1, b1_2, ()), r2, r3, ()), ((), (), step6, num7, den8, ok9, (), head17, (), high29, ()), ((), (), ()))) (fun r0 => g.2.2.1 ((r0, ()), ((), ()), ((), (), ()))) (fun r0 b1_0 b1_1 b1_2 r2 r3 step6 num7 den8 head17 high29 => g.2.2.2.1 ((r0, (b1_0, b1_1, b1_2, ()), r2, r3, ()), ((), (), step6, num7, den8, (), head17, (), high29, ()), ((), (), ()))) (fun r0 b1_0 b1_1 b1_2 r2 step6 n53 => g.2.2.2.2.1 ((r0, (b1_0, b1_1, b1_2, ()), r2, ()), ((), (), step6, (), n53, ()), ((), (), ()))) (g.2.2.2.2.2.1 ((), (), ((), (), ()))) (fun r0 b1_0 b1_1 b1_2 r2 r3 r4 step6 num7 den8 ok9 head17 side25 high29 k43 => g.2.2.2.2.2.2.1 ((r0, (b1_0, b1_1, b1_2, ()), r2, r3, r4, ()), ((), (), step6, num7, den8, ok9, (), head17, (), side25, high29, (), k43, ()), ((), (), ()))) (fun r0 b1_0 b1_1 b1_2 r2 r3 step6 num7 den8 head17 high29 s452 s453 => g.2.2.2.2.2.2.2.1 ((r0, (b1_0, b1_1, b1_2, ()), r2, r3, ()), ((), (), step6, num7, den8, head17, (), high29, (), s452, s453, ()), ((), (), ()))) (fun r0 b1_0 b1_1 b1_2 r2 step6 n53 => g.2.2.2.2.2.2.2.2.1 ((r0, (b1_0, b1_1, b1_2, ()), r2, ()), ((), (), step6, (), n53, ()), ((), (), ()))) r0 b1_0 b1_1 b1_2 r2 r3 step6 num7 den8 ok9 head17 high29) ?_ (fun g => by kernel_rfl)
    simp only [w_FnSpiralsTurn_t2]; repeat (first | apply Tail.cond | (apply Tail.bind; intro _) | exact Tail.here _ | exact Tail.there (Tail.here _) | exact Tail.there (Tail.there (Tail.here _)) | exact Tail.there (Tail.there (Tail.there (Tail.here _))) | exact Tail.there (Tail.there (Tail.there (Tail.there (Tail.here _)))) | exact Tail.there (Tail.there (Tail.there (Tail.there (Tail.there (Tail.here _))))) | exact Tail.there (Tail.there (Tail.there (Tail.there (Tail.there (Tail.there (Tail.here _)))))) | exact Tail.there (Tail.there (Tail.there (Tail.there (Tail.there (Tail.there (Tail.there (Tail.here _))))))) | exact Tail.there (Tail.there (Tail.there (Tail.there (Tail.there (Tail.there (Tail.there (Tail.there (Tail.here _)))))))) | exact Tail.const _),
  fun s => by
    obtain ⟨⟨r0, _⟩, ⟨_, _⟩, ⟨_, _, _⟩⟩ := s
    refine Tail.eq (Y := fun g => w_FnSpiralsTurn_t3 (fun r0 b1_0 b1_1 b1_2 r2 r3 r4 step6 num7 den8 ok9 head17 side25 high29 x37 y38 thirteen39 => g.1 ((r0, (b1_0, b1_1, b1_2, ()), r2, r3, r4, ()), ((), (), step6, num7, den8, ok9, (), head17, (), side25, high29, (), x37, y38, thirteen39, ()), ((), (), ()))) (fun r0 b1_0 b1_1 b1_2 r2 r3 step6 num7 den8 ok9 head17 high29 => g.2.1 ((r0, (b1_0, b1_1, b1_2, ()), r2, r3, ()), ((), (), step6, num7, den8, ok9, (), head17, (), high29, ()), ((), (), ()))) (fun r0 => g.2.2.1 ((r0, ()), ((), ()), ((), (), ()))) (fun r0 b1_0 b1_1 b1_2 r2 r3 step6 num7 den8 head17 high29 => g.2.2.2.1 ((r0, (b1_0, b1_1, b1_2, ()), r2, r3, ()), ((), (), step6, num7, den8, (), head17, (), high29, ()), ((), (), ()))) (fun r0 b1_0 b1_1 b1_2 r2 step6 n53 => g.2.2.2.2.1 ((r0, (b1_0, b1_1, b1_2, ()), r2, ()), ((), (), step6, (), n53, ()), ((), (), ()))) (g.2.2.2.2.2.1 ((), (), ((), (), ()))) (fun r0 b1_0 b1_1 b1_2 r2 r3 r4 step6 num7 den8 ok9 head17 side25 high29 k43 => g.2.2.2.2.2.2.1 ((r0, (b1_0, b1_1, b1_2, ()), r2, r3, r4, ()), ((), (), step6, num7, den8, ok9, (), head17, (), side25, high29, (), k43, ()), ((), (), ()))) (fun r0 b1_0 b1_1 b1_2 r2 r3 step6 num7 den8 head17 high29 s452 s453 => g.2.2.2.2.2.2.2.1 ((r0, (b1_0, b1_1, b1_2, ()), r2, r3, ()), ((), (), step6, num7, den8, head17, (), high29, (), s452, s453, ()), ((), (), ()))) (fun r0 b1_0 b1_1 b1_2 r2 step6 n53 => g.2.2.2.2.2.2.2.2.1 ((r0, (b1_0, b1_1, b1_2, ()), r2, ()), ((), (), step6, (), n53, ()), ((), (), ()))) r0) ?_ (fun g => by kernel_rfl)
    simp only [w_FnSpiralsTurn_t3]; repeat (first | apply Tail.cond | (apply Tail.bind; intro _) | exact Tail.here _ | exact Tail.there (Tail.here _) | exact Tail.there (Tail.there (Tail.here _)) | exact Tail.there (Tail.there (Tail.there (Tail.here _))) | exact Tail.there (Tail.there (Tail.there (Tail.there (Tail.here _)))) | exact Tail.there (Tail.there (Tail.there (Tail.there (Tail.there (Tail.here _))))) | exact Tail.there (Tail.there (Tail.there (Tail.there (Tail.there (Tail.there (Tail.here _)))))) | exact Tail.there (Tail.there (Tail.there (Tail.there (Tail.there (Tail.there (Tail.there (Tail.here _))))))) | exact Tail.there (Tail.there (Tail.there (Tail.there (Tail.there (Tail.there (Tail.there (Tail.there (Tail.here _)))))))) | exact Tail.const _),
  fun s => by
    obtain ⟨⟨r0, ⟨b1_0, b1_1, b1_2, _⟩, r2, r3, _⟩, ⟨_, _, step6, num7, den8, _, head17, _, high29, _⟩, ⟨_, _, _⟩⟩ := s
    refine Tail.eq (Y := fun g => w_FnSpiralsTurn_t4 (fun r0 b1_0 b1_1 b1_2 r2 r3 r4 step6 num7 den8 ok9 head17 side25 high29 x37 y38 thirteen39 => g.1 ((r0, (b1_0, b1_1, b1_2, ()), r2, r3, r4, ()), ((), (), step6, num7, den8, ok9, (), head17, (), side25, high29, (), x37, y38, thirteen39, ()), ((), (), ()))) (fun r0 b1_0 b1_1 b1_2 r2 r3 step6 num7 den8 ok9 head17 high29 => g.2.1 ((r0, (b1_0, b1_1, b1_2, ()), r2, r3, ()), ((), (), step6, num7, den8, ok9, (), head17, (), high29, ()), ((), (), ()))) (fun r0 => g.2.2.1 ((r0, ()), ((), ()), ((), (), ()))) (fun r0 b1_0 b1_1 b1_2 r2 r3 step6 num7 den8 head17 high29 => g.2.2.2.1 ((r0, (b1_0, b1_1, b1_2, ()), r2, r3, ()), ((), (), step6, num7, den8, (), head17, (), high29, ()), ((), (), ()))) (fun r0 b1_0 b1_1 b1_2 r2 step6 n53 => g.2.2.2.2.1 ((r0, (b1_0, b1_1, b1_2, ()), r2, ()), ((), (), step6, (), n53, ()), ((), (), ()))) (g.2.2.2.2.2.1 ((), (), ((), (), ()))) (fun r0 b1_0 b1_1 b1_2 r2 r3 r4 step6 num7 den8 ok9 head17 side25 high29 k43 => g.2.2.2.2.2.2.1 ((r0, (b1_0, b1_1, b1_2, ()), r2, r3, r4, ()), ((), (), step6, num7, den8, ok9, (), head17, (), side25, high29, (), k43, ()), ((), (), ()))) (fun r0 b1_0 b1_1 b1_2 r2 r3 step6 num7 den8 head17 high29 s452 s453 => g.2.2.2.2.2.2.2.1 ((r0, (b1_0, b1_1, b1_2, ()), r2, r3, ()), ((), (), step6, num7, den8, head17, (), high29, (), s452, s453, ()), ((), (), ()))) (fun r0 b1_0 b1_1 b1_2 r2 step6 n53 => g.2.2.2.2.2.2.2.2.1 ((r0, (b1_0, b1_1, b1_2, ()), r2, ()), ((), (), step6, (), n53, ()), ((), (), ()))) r0 b1_0 b1_1 b1_2 r2 r3 step6 num7 den8 head17 high29) ?_ (fun g => by kernel_rfl)
    simp only [w_FnSpiralsTurn_t4]; repeat (first | apply Tail.cond | (apply Tail.bind; intro _) | exact Tail.here _ | exact Tail.there (Tail.here _) | exact Tail.there (Tail.there (Tail.here _)) | exact Tail.there (Tail.there (Tail.there (Tail.here _))) | exact Tail.there (Tail.there (Tail.there (Tail.there (Tail.here _)))) | exact Tail.there (Tail.there (Tail.there (Tail.there (Tail.there (Tail.here _))))) | exact Tail.there (Tail.there (Tail.there (Tail.there (Tail.there (Tail.there (Tail.here _)))))) | exact Tail.there (Tail.there (Tail.there (Tail.there (Tail.there (Tail.there (Tail.there (Tail.here _))))))) | exact Tail.there (Tail.there (Tail.there (Tail.there (Tail.there (Tail.there (Tail.there (Tail.there (Tail.here _)))))))) | exact Tail.const _),
  fun s => by
    obtain ⟨⟨r0, ⟨b1_0, b1_1, b1_2, _⟩, r2, _⟩, ⟨_, _, step6, _, n53, _⟩, ⟨_, _, _⟩⟩ := s
    refine Tail.eq (Y := fun g => w_FnSpiralsTurn_t5 (fun r0 b1_0 b1_1 b1_2 r2 r3 r4 step6 num7 den8 ok9 head17 side25 high29 x37 y38 thirteen39 => g.1 ((r0, (b1_0, b1_1, b1_2, ()), r2, r3, r4, ()), ((), (), step6, num7, den8, ok9, (), head17, (), side25, high29, (), x37, y38, thirteen39, ()), ((), (), ()))) (fun r0 b1_0 b1_1 b1_2 r2 r3 step6 num7 den8 ok9 head17 high29 => g.2.1 ((r0, (b1_0, b1_1, b1_2, ()), r2, r3, ()), ((), (), step6, num7, den8, ok9, (), head17, (), high29, ()), ((), (), ()))) (fun r0 => g.2.2.1 ((r0, ()), ((), ()), ((), (), ()))) (fun r0 b1_0 b1_1 b1_2 r2 r3 step6 num7 den8 head17 high29 => g.2.2.2.1 ((r0, (b1_0, b1_1, b1_2, ()), r2, r3, ()), ((), (), step6, num7, den8, (), head17, (), high29, ()), ((), (), ()))) (fun r0 b1_0 b1_1 b1_2 r2 step6 n53 => g.2.2.2.2.1 ((r0, (b1_0, b1_1, b1_2, ()), r2, ()), ((), (), step6, (), n53, ()), ((), (), ()))) (g.2.2.2.2.2.1 ((), (), ((), (), ()))) (fun r0 b1_0 b1_1 b1_2 r2 r3 r4 step6 num7 den8 ok9 head17 side25 high29 k43 => g.2.2.2.2.2.2.1 ((r0, (b1_0, b1_1, b1_2, ()), r2, r3, r4, ()), ((), (), step6, num7, den8, ok9, (), head17, (), side25, high29, (), k43, ()), ((), (), ()))) (fun r0 b1_0 b1_1 b1_2 r2 r3 step6 num7 den8 head17 high29 s452 s453 => g.2.2.2.2.2.2.2.1 ((r0, (b1_0, b1_1, b1_2, ()), r2, r3, ()), ((), (), step6, num7, den8, head17, (), high29, (), s452, s453, ()), ((), (), ()))) (fun r0 b1_0 b1_1 b1_2 r2 step6 n53 => g.2.2.2.2.2.2.2.2.1 ((r0, (b1_0, b1_1, b1_2, ()), r2, ()), ((), (), step6, (), n53, ()), ((), (), ()))) r0 b1_0 b1_1 b1_2 r2 step6 n53) ?_ (fun g => by kernel_rfl)
    simp only [w_FnSpiralsTurn_t5]; repeat (first | apply Tail.cond | (apply Tail.bind; intro _) | exact Tail.here _ | exact Tail.there (Tail.here _) | exact Tail.there (Tail.there (Tail.here _)) | exact Tail.there (Tail.there (Tail.there (Tail.here _))) | exact Tail.there (Tail.there (Tail.there (Tail.there (Tail.here _)))) | exact Tail.there (Tail.there (Tail.there (Tail.there (Tail.there (Tail.here _))))) | exact Tail.there (Tail.there (Tail.there (Tail.there (Tail.there (Tail.there (Tail.here _)))))) | exact Tail.there (Tail.there (Tail.there (Tail.there (Tail.there (Tail.there (Tail.there (Tail.here _))))))) | exact Tail.there (Tail.there (Tail.there (Tail.there (Tail.there (Tail.there (Tail.there (Tail.there (Tail.here _)))))))) | exact Tail.const _),
  fun s => by
    obtain ⟨_, _, ⟨_, _, _⟩⟩ := s
    refine Tail.eq (Y := fun g => w_FnSpiralsTurn_t6 (fun r0 b1_0 b1_1 b1_2 r2 r3 r4 step6 num7 den8 ok9 head17 side25 high29 x37 y38 thirteen39 => g.1 ((r0, (b1_0, b1_1, b1_2, ()), r2, r3, r4, ()), ((), (), step6, num7, den8, ok9, (), head17, (), side25, high29, (), x37, y38, thirteen39, ()), ((), (), ()))) (fun r0 b1_0 b1_1 b1_2 r2 r3 step6 num7 den8 ok9 head17 high29 => g.2.1 ((r0, (b1_0, b1_1, b1_2, ()), r2, r3, ()), ((), (), step6, num7, den8, ok9, (), head17, (), high29, ()), ((), (), ()))) (fun r0 => g.2.2.1 ((r0, ()), ((), ()), ((), (), ()))) (fun r0 b1_0 b1_1 b1_2 r2 r3 step6 num7 den8 head17 high29 => g.2.2.2.1 ((r0, (b1_0, b1_1, b1_2, ()), r2, r3, ()), ((), (), step6, num7, den8, (), head17, (), high29, ()), ((), (), ()))) (fun r0 b1_0 b1_1 b1_2 r2 step6 n53 => g.2.2.2.2.1 ((r0, (b1_0, b1_1, b1_2, ()), r2, ()), ((), (), step6, (), n53, ()), ((), (), ()))) (g.2.2.2.2.2.1 ((), (), ((), (), ()))) (fun r0 b1_0 b1_1 b1_2 r2 r3 r4 step6 num7 den8 ok9 head17 side25 high29 k43 => g.2.2.2.2.2.2.1 ((r0, (b1_0, b1_1, b1_2, ()), r2, r3, r4, ()), ((), (), step6, num7, den8, ok9, (), head17, (), side25, high29, (), k43, ()), ((), (), ()))) (fun r0 b1_0 b1_1 b1_2 r2 r3 step6 num7 den8 head17 high29 s452 s453 => g.2.2.2.2.2.2.2.1 ((r0, (b1_0, b1_1, b1_2, ()), r2, r3, ()), ((), (), step6, num7, den8, head17, (), high29, (), s452, s453, ()), ((), (), ()))) (fun r0 b1_0 b1_1 b1_2 r2 step6 n53 => g.2.2.2.2.2.2.2.2.1 ((r0, (b1_0, b1_1, b1_2, ()), r2, ()), ((), (), step6, (), n53, ()), ((), (), ()))) ) ?_ (fun g => by kernel_rfl)
    simp only [w_FnSpiralsTurn_t6]; repeat (first | apply Tail.cond | (apply Tail.bind; intro _) | exact Tail.here _ | exact Tail.there (Tail.here _) | exact Tail.there (Tail.there (Tail.here _)) | exact Tail.there (Tail.there (Tail.there (Tail.here _))) | exact Tail.there (Tail.there (Tail.there (Tail.there (Tail.here _)))) | exact Tail.there (Tail.there (Tail.there (Tail.there (Tail.there (Tail.here _))))) | exact Tail.there (Tail.there (Tail.there (Tail.there (Tail.there (Tail.there (Tail.here _)))))) | exact Tail.there (Tail.there (Tail.there (Tail.there (Tail.there (Tail.there (Tail.there (Tail.here _))))))) | exact Tail.there (Tail.there (Tail.there (Tail.there (Tail.there (Tail.there (Tail.there (Tail.there (Tail.here _)))))))) | exact Tail.const _),
  fun s => by
    obtain ⟨⟨r0, ⟨b1_0, b1_1, b1_2, _⟩, r2, r3, r4, _⟩, ⟨_, _, step6, num7, den8, ok9, _, head17, _, side25, high29, _, k43, _⟩, ⟨_, _, _⟩⟩ := s
    refine Tail.eq (Y := fun g => w_FnSpiralsTurn_t7 (fun r0 b1_0 b1_1 b1_2 r2 r3 r4 step6 num7 den8 ok9 head17 side25 high29 x37 y38 thirteen39 => g.1 ((r0, (b1_0, b1_1, b1_2, ()), r2, r3, r4, ()), ((), (), step6, num7, den8, ok9, (), head17, (), side25, high29, (), x37, y38, thirteen39, ()), ((), (), ()))) (fun r0 b1_0 b1_1 b1_2 r2 r3 step6 num7 den8 ok9 head17 high29 => g.2.1 ((r0, (b1_0, b1_1, b1_2, ()), r2, r3, ()), ((), (), step6, num7, den8, ok9, (), head17, (), high29, ()), ((), (), ()))) (fun r0 => g.2.2.1 ((r0, ()), ((), ()), ((), (), ()))) (fun r0 b1_0 b1_1 b1_2 r2 r3 step6 num7 den8 head17 high29 => g.2.2.2.1 ((r0, (b1_0, b1_1, b1_2, ()), r2, r3, ()), ((), (), step6, num7, den8, (), head17, (), high29, ()), ((), (), ()))) (fun r0 b1_0 b1_1 b1_2 r2 step6 n53 => g.2.2.2.2.1 ((r0, (b1_0, b1_1, b1_2, ()), r2, ()), ((), (), step6, (), n53, ()), ((), (), ()))) (g.2.2.2.2.2.1 ((), (), ((), (), ()))) (fun r0 b1_0 b1_1 b1_2 r2 r3 r4 step6 num7 den8 ok9 head17 side25 high29 k43 => g.2.2.2.2.2.2.1 ((r0, (b1_0, b1_1, b1_2, ()), r2, r3, r4, ()), ((), (), step6, num7, den8, ok9, (), head17, (), side25, high29, (), k43, ()), ((), (), ()))) (fun r0 b1_0 b1_1 b1_2 r2 r3 step6 num7 den8 head17 high29 s452 s453 => g.2.2.2.2.2.2.2.1 ((r0, (b1_0, b1_1, b1_2, ()), r2, r3, ()), ((), (), step6, num7, den8, head17, (), high29, (), s452, s453, ()), ((), (), ()))) (fun r0 b1_0 b1_1 b1_2 r2 step6 n53 => g.2.2.2.2.2.2.2.2.1 ((r0, (b1_0, b1_1, b1_2, ()), r2, ()), ((), (), step6, (), n53, ()), ((), (), ()))) r0 b1_0 b1_1 b1_2 r2 r3 r4 step6 num7 den8 ok9 head17 side25 high29 k43) ?_ (fun g => by kernel_rfl)
    simp only [w_FnSpiralsTurn_t7]; repeat (first | apply Tail.cond | (apply Tail.bind; intro _) | exact Tail.here _ | exact Tail.there (Tail.here _) | exact Tail.there (Tail.there (Tail.here _)) | exact Tail.there (Tail.there (Tail.there (Tail.here _))) | exact Tail.there (Tail.there (Tail.there (Tail.there (Tail.here _)))) | exact Tail.there (Tail.there (Tail.there (Tail.there (Tail.there (Tail.here _))))) | exact Tail.there (Tail.there (Tail.there (Tail.there (Tail.there (Tail.there (Tail.here _)))))) | exact Tail.there (Tail.there (Tail.there (Tail.there (Tail.there (Tail.there (Tail.there (Tail.here _))))))) | exact Tail.there (Tail.there (Tail.there (Tail.there (Tail.there (Tail.there (Tail.there (Tail.there (Tail.here _)))))))) | exact Tail.const _),
  fun s => by
    obtain ⟨⟨r0, ⟨b1_0, b1_1, b1_2, _⟩, r2, r3, _⟩, ⟨_, _, step6, num7, den8, head17, _, high29, _, s452, s453, _⟩, ⟨_, _, _⟩⟩ := s
    refine Tail.eq (Y := fun g => w_FnSpiralsTurn_t8 (fun r0 b1_0 b1_1 b1_2 r2 r3 r4 step6 num7 den8 ok9 head17 side25 high29 x37 y38 thirteen39 => g.1 ((r0, (b1_0, b1_1, b1_2, ()), r2, r3, r4, ()), ((), (), step6, num7, den8, ok9, (), head17, (), side25, high29, (), x37, y38, thirteen39, ()), ((), (), ()))) (fun r0 b1_0 b1_1 b1_2 r2 r3 step6 num7 den8 ok9 head17 high29 => g.2.1 ((r0, (b1_0, b1_1, b1_2, ()), r2, r3, ()), ((), (), step6, num7, den8, ok9, (), head17, (), high29, ()), ((), (), ()))) (fun r0 => g.2.2.1 ((r0, ()), ((), ()), ((), (), ()))) (fun r0 b1_0 b1_1 b1_2 r2 r3 step6 num7 den8 head17 high29 => g.2.2.2.1 ((r0, (b1_0, b1_1, b1_2, ()), r2, r3, ()), ((), (), step6, num7, den8, (), head17, (), high29, ()), ((), (), ()))) (fun r0 b1_0 b1_1 b1_2 r2 step6 n53 => g.2.2.2.2.1 ((r0, (b1_0, b1_1, b1_2, ()), r2, ()), ((), (), step6, (), n53, ()), ((), (), ()))) (g.2.2.2.2.2.1 ((), (), ((), (), ()))) (fun r0 b1_0 b1_1 b1_2 r2 r3 r4 step6 num7 den8 ok9 head17 side25 high29 k43 => g.2.2.2.2.2.2.1 ((r0, (b1_0, b1_1, b1_2, ()), r2, r3, r4, ()), ((), (), step6, num7, den8, ok9, (), head17, (), side25, high29, (), k43, ()), ((), (), ()))) (fun r0 b1_0 b1_1 b1_2 r2 r3 step6 num7 den8 head17 high29 s452 s453 => g.2.2.2.2.2.2.2.1 ((r0, (b1_0, b1_1, b1_2, ()), r2, r3, ()), ((), (), step6, num7, den8, head17, (), high29, (), s452, s453, ()), ((), (), ()))) (fun r0 b1_0 b1_1 b1_2 r2 step6 n53 => g.2.2.2.2.2.2.2.2.1 ((r0, (b1_0, b1_1, b1_2, ()), r2, ()), ((), (), step6, (), n53, ()), ((), (), ()))) r0 b1_0 b1_1 b1_2 r2 r3 step6 num7 den8 head17 high29 s452 s453) ?_ (fun g => by kernel_rfl)
    simp only [w_FnSpiralsTurn_t8]; repeat (first | apply Tail.cond | (apply Tail.bind; intro _) | exact Tail.here _ | exact Tail.there (Tail.here _) | exact Tail.there (Tail.there (Tail.here _)) | exact Tail.there (Tail.there (Tail.there (Tail.here _))) | exact Tail.there (Tail.there (Tail.there (Tail.there (Tail.here _)))) | exact Tail.there (Tail.there (Tail.there (Tail.there (Tail.there (Tail.here _))))) | exact Tail.there (Tail.there (Tail.there (Tail.there (Tail.there (Tail.there (Tail.here _)))))) | exact Tail.there (Tail.there (Tail.there (Tail.there (Tail.there (Tail.there (Tail.there (Tail.here _))))))) | exact Tail.there (Tail.there (Tail.there (Tail.there (Tail.there (Tail.there (Tail.there (Tail.there (Tail.here _)))))))) | exact Tail.const _),
  fun s => by
    obtain ⟨⟨r0, ⟨b1_0, b1_1, b1_2, _⟩, r2, _⟩, ⟨_, _, step6, _, n53, _⟩, ⟨_, _, _⟩⟩ := s
    refine Tail.eq (Y := fun g => w_FnSpiralsTurn_t9 (fun r0 b1_0 b1_1 b1_2 r2 r3 r4 step6 num7 den8 ok9 head17 side25 high29 x37 y38 thirteen39 => g.1 ((r0, (b1_0, b1_1, b1_2, ()), r2, r3, r4, ()), ((), (), step6, num7, den8, ok9, (), head17, (), side25, high29, (), x37, y38, thirteen39, ()), ((), (), ()))) (fun r0 b1_0 b1_1 b1_2 r2 r3 step6 num7 den8 ok9 head17 high29 => g.2.1 ((r0, (b1_0, b1_1, b1_2, ()), r2, r3, ()), ((), (), step6, num7, den8, ok9, (), head17, (), high29, ()), ((), (), ()))) (fun r0 => g.2.2.1 ((r0, ()), ((), ()), ((), (), ()))) (fun r0 b1_0 b1_1 b1_2 r2 r3 step6 num7 den8 head17 high29 => g.2.2.2.1 ((r0, (b1_0, b1_1, b1_2, ()), r2, r3, ()), ((), (), step6, num7, den8, (), head17, (), high29, ()), ((), (), ()))) (fun r0 b1_0 b1_1 b1_2 r2 step6 n53 => g.2.2.2.2.1 ((r0, (b1_0, b1_1, b1_2, ()), r2, ()), ((), (), step6, (), n53, ()), ((), (), ()))) (g.2.2.2.2.2.1 ((), (), ((), (), ()))) (fun r0 b1_0 b1_1 b1_2 r2 r3 r4 step6 num7 den8 ok9 head17 side25 high29 k43 => g.2.2.2.2.2.2.1 ((r0, (b1_0, b1_1, b1_2, ()), r2, r3, r4, ()), ((), (), step6, num7, den8, ok9, (), head17, (), side25, high29, (), k43, ()), ((), (), ()))) (fun r0 b1_0 b1_1 b1_2 r2 r3 step6 num7 den8 head17 high29 s452 s453 => g.2.2.2.2.2.2.2.1 ((r0, (b1_0, b1_1, b1_2, ()), r2, r3, ()), ((), (), step6, num7, den8, head17, (), high29, (), s452, s453, ()), ((), (), ()))) (fun r0 b1_0 b1_1 b1_2 r2 step6 n53 => g.2.2.2.2.2.2.2.2.1 ((r0, (b1_0, b1_1, b1_2, ()), r2, ()), ((), (), step6, (), n53, ()), ((), (), ()))) r0 b1_0 b1_1 b1_2 r2 step6 n53) ?_ (fun g => by kernel_rfl)
    simp only [w_FnSpiralsTurn_t9]; repeat (first | apply Tail.cond | (apply Tail.bind; intro _) | exact Tail.here _ | exact Tail.there (Tail.here _) | exact Tail.there (Tail.there (Tail.here _)) | exact Tail.there (Tail.there (Tail.there (Tail.here _))) | exact Tail.there (Tail.there (Tail.there (Tail.there (Tail.here _)))) | exact Tail.there (Tail.there (Tail.there (Tail.there (Tail.there (Tail.here _))))) | exact Tail.there (Tail.there (Tail.there (Tail.there (Tail.there (Tail.there (Tail.here _)))))) | exact Tail.there (Tail.there (Tail.there (Tail.there (Tail.there (Tail.there (Tail.there (Tail.here _))))))) | exact Tail.there (Tail.there (Tail.there (Tail.there (Tail.there (Tail.there (Tail.there (Tail.there (Tail.here _)))))))) | exact Tail.const _), trivial⟩
theorem w_FnSpiralsTurn_hs : ∀ x, Tail c_w_FnSpiralsTurn.pts (fun g => c_w_FnSpiralsTurn.start g x) := fun x => by
    obtain ⟨code0, more1, _⟩ := x
    refine Tail.eq (Y := fun g => w_FnSpiralsTurn_t0 (fun r0 b1_0 b1_1 b1_2 r2 r3 r4 step6 num7 den8 ok9 head17 side25 high29 x37 y38 thirteen39 => g.1 ((r0, (b1_0, b1_1, b1_2, ()), r2, r3, r4, ()), ((), (), step6, num7, den8, ok9, (), head17, (), side25, high29, (), x37, y38, thirteen39, ()), ((), (), ()))) (fun r0 b1_0 b1_1 b1_2 r2 r3 step6 num7 den8 ok9 head17 high29 => g.2.1 ((r0, (b1_0, b1_1, b1_2, ()), r2, r3, ()), ((), (), step6, num7, den8, ok9, (), head17, (), high29, ()), ((), (), ()))) (fun r0 => g.2.2.1 ((r0, ()), ((), ()), ((), (), ()))) (fun r0 b1_0 b1_1 b1_2 r2 r3 step6 num7 den8 head17 high29 => g.2.2.2.1 ((r0, (b1_0, b1_1, b1_2, ()), r2, r3, ()), ((), (), step6, num7, den8, (), head17, (), high29, ()), ((), (), ()))) (fun r0 b1_0 b1_1 b1_2 r2 step6 n53 => g.2.2.2.2.1 ((r0, (b1_0, b1_1, b1_2, ()), r2, ()), ((), (), step6, (), n53, ()), ((), (), ()))) (g.2.2.2.2.2.1 ((), (), ((), (), ()))) (fun r0 b1_0 b1_1 b1_2 r2 r3 r4 step6 num7 den8 ok9 head17 side25 high29 k43 => g.2.2.2.2.2.2.1 ((r0, (b1_0, b1_1, b1_2, ()), r2, r3, r4, ()), ((), (), step6, num7, den8, ok9, (), head17, (), side25, high29, (), k43, ()), ((), (), ()))) (fun r0 b1_0 b1_1 b1_2 r2 r3 step6 num7 den8 head17 high29 s452 s453 => g.2.2.2.2.2.2.2.1 ((r0, (b1_0, b1_1, b1_2, ()), r2, r3, ()), ((), (), step6, num7, den8, head17, (), high29, (), s452, s453, ()), ((), (), ()))) (fun r0 b1_0 b1_1 b1_2 r2 step6 n53 => g.2.2.2.2.2.2.2.2.1 ((r0, (b1_0, b1_1, b1_2, ()), r2, ()), ((), (), step6, (), n53, ()), ((), (), ()))) code0 more1) ?_ (fun g => by kernel_rfl)
    simp only [w_FnSpiralsTurn_t0]; repeat (first | apply Tail.cond | (apply Tail.bind; intro _) | exact Tail.here _ | exact Tail.there (Tail.here _) | exact Tail.there (Tail.there (Tail.here _)) | exact Tail.there (Tail.there (Tail.there (Tail.here _))) | exact Tail.there (Tail.there (Tail.there (Tail.there (Tail.here _)))) | exact Tail.there (Tail.there (Tail.there (Tail.there (Tail.there (Tail.here _))))) | exact Tail.there (Tail.there (Tail.there (Tail.there (Tail.there (Tail.there (Tail.here _)))))) | exact Tail.there (Tail.there (Tail.there (Tail.there (Tail.there (Tail.there (Tail.there (Tail.here _))))))) | exact Tail.there (Tail.there (Tail.there (Tail.there (Tail.there (Tail.there (Tail.there (Tail.there (Tail.here _)))))))) | exact Tail.const _)
noncomputable def w_FnSpiralsTurn_L1 (r0 : List (Int)) (b1_0 : Int) (b1_1 : Int) (b1_2 : Int) (r2 : List (Int)) (r3 : List (Int)) (r4 : List (Int)) (step6 : Int) (num7 : Int) (den8 : Int) (ok9 : Bool) (head17 : Int) (side25 : ByteArray) (high29 : Int) (x37 : Int) (y38 : Int) (thirteen39 : Bool) : Option Bool := c_w_FnSpiralsTurn.L.1 ((r0, (b1_0, b1_1, b1_2, ()), r2, r3, r4, ()), ((), (), step6, num7, den8, ok9, (), head17, (), side25, high29, (), x37, y38, thirteen39, ()), ((), (), ()))
noncomputable def w_FnSpiralsTurn_L2 (r0 : List (Int)) (b1_0 : Int) (b1_1 : Int) (b1_2 : Int) (r2 : List (Int)) (r3 : List (Int)) (step6 : Int) (num7 : Int) (den8 : Int) (ok9 : Bool) (head17 : Int) (high29 : Int) : Option Bool := c_w_FnSpiralsTurn.L.2.1 ((r0, (b1_0, b1_1, b1_2, ()), r2, r3, ()), ((), (), step6, num7, den8, ok9, (), head17, (), high29, ()), ((), (), ()))
noncomputable def w_FnSpiralsTurn_L3 (r0 : List (Int)) : Option Bool := c_w_FnSpiralsTurn.L.2.2.1 ((r0, ()), ((), ()), ((), (), ()))
noncomputable def w_FnSpiralsTurn_L4 (r0 : List (Int)) (b1_0 : Int) (b1_1 : Int) (b1_2 : Int) (r2 : List (Int)) (r3 : List (Int)) (step6 : Int) (num7 : Int) (den8 : Int) (head17 : Int) (high29 : Int) : Option Bool := c_w_FnSpiralsTurn.L.2.2.2.1 ((r0, (b1_0, b1_1, b1_2, ()), r2, r3, ()), ((), (), step6, num7, den8, (), head17, (), high29, ()), ((), (), ()))
noncomputable def w_FnSpiralsTurn_L5 (r0 : List (Int)) (b1_0 : Int) (b1_1 : Int) (b1_2 : Int) (r2 : List (Int)) (step6 : Int) (n53 : Int) : Option Bool := c_w_FnSpiralsTurn.L.2.2.2.2.1 ((r0, (b1_0, b1_1, b1_2, ()), r2, ()), ((), (), step6, (), n53, ()), ((), (), ()))
noncomputable def w_FnSpiralsTurn_L6  : Option Bool := c_w_FnSpiralsTurn.L.2.2.2.2.2.1 ((), (), ((), (), ()))
noncomputable def w_FnSpiralsTurn_L7 (r0 : List (Int)) (b1_0 : Int) (b1_1 : Int) (b1_2 : Int) (r2 : List (Int)) (r3 : List (Int)) (r4 : List (Int)) (step6 : Int) (num7 : Int) (den8 : Int) (ok9 : Bool) (head17 : Int) (side25 : ByteArray) (high29 : Int) (k43 : Int) : Option Bool := c_w_FnSpiralsTurn.L.2.2.2.2.2.2.1 ((r0, (b1_0, b1_1, b1_2, ()), r2, r3, r4, ()), ((), (), step6, num7, den8, ok9, (), head17, (), side25, high29, (), k43, ()), ((), (), ()))
noncomputable def w_FnSpiralsTurn_L8 (r0 : List (Int)) (b1_0 : Int) (b1_1 : Int) (b1_2 : Int) (r2 : List (Int)) (r3 : List (Int)) (step6 : Int) (num7 : Int) (den8 : Int) (head17 : Int) (high29 : Int) (s452 : Int) (s453 : Int) : Option Bool := c_w_FnSpiralsTurn.L.2.2.2.2.2.2.2.1 ((r0, (b1_0, b1_1, b1_2, ()), r2, r3, ()), ((), (), step6, num7, den8, head17, (), high29, (), s452, s453, ()), ((), (), ()))
noncomputable def w_FnSpiralsTurn_L9 (r0 : List (Int)) (b1_0 : Int) (b1_1 : Int) (b1_2 : Int) (r2 : List (Int)) (step6 : Int) (n53 : Int) : Option Bool := c_w_FnSpiralsTurn.L.2.2.2.2.2.2.2.2.1 ((r0, (b1_0, b1_1, b1_2, ()), r2, ()), ((), (), step6, (), n53, ()), ((), (), ()))
theorem w_FnSpiralsTurn_u1 (r0 : List (Int)) (b1_0 : Int) (b1_1 : Int) (b1_2 : Int) (r2 : List (Int)) (r3 : List (Int)) (r4 : List (Int)) (step6 : Int) (num7 : Int) (den8 : Int) (ok9 : Bool) (head17 : Int) (side25 : ByteArray) (high29 : Int) (x37 : Int) (y38 : Int) (thirteen39 : Bool) : w_FnSpiralsTurn_L1 r0 b1_0 b1_1 b1_2 r2 r3 r4 step6 num7 den8 ok9 head17 side25 high29 x37 y38 thirteen39 = w_FnSpiralsTurn_t1 w_FnSpiralsTurn_L1 w_FnSpiralsTurn_L2 w_FnSpiralsTurn_L3 w_FnSpiralsTurn_L4 w_FnSpiralsTurn_L5 w_FnSpiralsTurn_L6 w_FnSpiralsTurn_L7 w_FnSpiralsTurn_L8 w_FnSpiralsTurn_L9 r0 b1_0 b1_1 b1_2 r2 r3 r4 step6 num7 den8 ok9 head17 side25 high29 x37 y38 thirteen39 :=
  (congrArg (fun g => g.1 ((r0, (b1_0, b1_1, b1_2, ()), r2, r3, r4, ()), ((), (), step6, num7, den8, ok9, (), head17, (), side25, high29, (), x37, y38, thirteen39, ()), ((), (), ()))) (FnCx.L_eq w_FnSpiralsTurn_ts)).trans (by kernel_rfl)
theorem w_FnSpiralsTurn_u2 (r0 : List (Int)) (b1_0 : Int) (b1_1 : Int) (b1_2 : Int) (r2 : List (Int)) (r3 : List (Int)) (step6 : Int) (num7 : Int) (den8 : Int) (ok9 : Bool) (head17 : Int) (high29 : Int) : w_FnSpiralsTurn_L2 r0 b1_0 b1_1 b1_2 r2 r3 step6 num7 den8 ok9 head17 high29 = w_FnSpiralsTurn_t2 w_FnSpiralsTurn_L1 w_FnSpiralsTurn_L2 w_FnSpiralsTurn_L3 w_FnSpiralsTurn_L4 w_FnSpiralsTurn_L5 w_FnSpiralsTurn_L6 w_FnSpiralsTurn_L7 w_FnSpiralsTurn_L8 w_FnSpiralsTurn_L9 r0 b1_0 b1_1 b1_2 r2 r3 step6 num7 den8 ok9 head17 high29 :=
  (congrArg (fun g => g.2.1 ((r0, (b1_0, b1_1, b1_2, ()), r2, r3, ()), ((), (), step6, num7, den8, ok9, (), head17, (), high29, ()), ((), (), ()))) (FnCx.L_eq w_FnSpiralsTurn_ts)).trans (by kernel_rfl)
theorem w_FnSpiralsTurn_u3 (r0 : List (Int)) : w_FnSpiralsTurn_L3 r0 = w_FnSpiralsTurn_t3 w_FnSpiralsTurn_L1 w_FnSpiralsTurn_L2 w_FnSpiralsTurn_L3 w_FnSpiralsTurn_L4 w_FnSpiralsTurn_L5 w_FnSpiralsTurn_L6 w_FnSpiralsTurn_L7 w_FnSpiralsTurn_L8 w_FnSpiralsTurn_L9 r0 :=
  (congrArg (fun g => g.2.2.1 ((r0, ()), ((), ()), ((), (), ()))) (FnCx.L_eq w_FnSpiralsTurn_ts)).trans (by kernel_rfl)
theorem w_FnSpiralsTurn_u4 (r0 : List (Int)) (b1_0 : Int) (b1_1 : Int) (b1_2 : Int) (r2 : List (Int)) (r3 : List (Int)) (step6 : Int) (num7 : Int) (den8 : Int) (head17 : Int) (high29 : Int) : w_FnSpiralsTurn_L4 r0 b1_0 b1_1 b1_2 r2 r3 step6 num7 den8 head17 high29 = w_FnSpiralsTurn_t4 w_FnSpiralsTurn_L1 w_FnSpiralsTurn_L2 w_FnSpiralsTurn_L3 w_FnSpiralsTurn_L4 w_FnSpiralsTurn_L5 w_FnSpiralsTurn_L6 w_FnSpiralsTurn_L7 w_FnSpiralsTurn_L8 w_FnSpiralsTurn_L9 r0 b1_0 b1_1 b1_2 r2 r3 step6 num7 den8 head17 high29 :=
  (congrArg (fun g => g.2.2.2.1 ((r0, (b1_0, b1_1, b1_2, ()), r2, r3, ()), ((), (), step6, num7, den8, (), head17, (), high29, ()), ((), (), ()))) (FnCx.L_eq w_FnSpiralsTurn_ts)).trans (by kernel_rfl)
theorem w_FnSpiralsTurn_u5 (r0 : List (Int)) (b1_0 : Int) (b1_1 : Int) (b1_2 : Int) (r2 : List (Int)) (step6 : Int) (n53 : Int) : w_FnSpiralsTurn_L5 r0 b1_0 b1_1 b1_2 r2 step6 n53 = w_FnSpiralsTurn_t5 w_FnSpiralsTurn_L1 w_FnSpiralsTurn_L2 w_FnSpiralsTurn_L3 w_FnSpiralsTurn_L4 w_FnSpiralsTurn_L5 w_FnSpiralsTurn_L6 w_FnSpiralsTurn_L7 w_FnSpiralsTurn_L8 w_FnSpiralsTurn_L9 r0 b1_0 b1_1 b1_2 r2 step6 n53 :=
  (congrArg (fun g => g.2.2.2.2.1 ((r0, (b1_0, b1_1, b1_2, ()), r2, ()), ((), (), step6, (), n53, ()), ((), (), ()))) (FnCx.L_eq w_FnSpiralsTurn_ts)).trans (by kernel_rfl)
theorem w_FnSpiralsTurn_u6  : w_FnSpiralsTurn_L6  = w_FnSpiralsTurn_t6 w_FnSpiralsTurn_L1 w_FnSpiralsTurn_L2 w_FnSpiralsTurn_L3 w_FnSpiralsTurn_L4 w_FnSpiralsTurn_L5 w_FnSpiralsTurn_L6 w_FnSpiralsTurn_L7 w_FnSpiralsTurn_L8 w_FnSpiralsTurn_L9  :=
  (congrArg (fun g => g.2.2.2.2.2.1 ((), (), ((), (), ()))) (FnCx.L_eq w_FnSpiralsTurn_ts)).trans (by kernel_rfl)
theorem w_FnSpiralsTurn_u7 (r0 : List (Int)) (b1_0 : Int) (b1_1 : Int) (b1_2 : Int) (r2 : List (Int)) (r3 : List (Int)) (r4 : List (Int)) (step6 : Int) (num7 : Int) (den8 : Int) (ok9 : Bool) (head17 : Int) (side25 : ByteArray) (high29 : Int) (k43 : Int) : w_FnSpiralsTurn_L7 r0 b1_0 b1_1 b1_2 r2 r3 r4 step6 num7 den8 ok9 head17 side25 high29 k43 = w_FnSpiralsTurn_t7 w_FnSpiralsTurn_L1 w_FnSpiralsTurn_L2 w_FnSpiralsTurn_L3 w_FnSpiralsTurn_L4 w_FnSpiralsTurn_L5 w_FnSpiralsTurn_L6 w_FnSpiralsTurn_L7 w_FnSpiralsTurn_L8 w_FnSpiralsTurn_L9 r0 b1_0 b1_1 b1_2 r2 r3 r4 step6 num7 den8 ok9 head17 side25 high29 k43 :=
  (congrArg (fun g => g.2.2.2.2.2.2.1 ((r0, (b1_0, b1_1, b1_2, ()), r2, r3, r4, ()), ((), (), step6, num7, den8, ok9, (), head17, (), side25, high29, (), k43, ()), ((), (), ()))) (FnCx.L_eq w_FnSpiralsTurn_ts)).trans (by kernel_rfl)
theorem w_FnSpiralsTurn_u8 (r0 : List (Int)) (b1_0 : Int) (b1_1 : Int) (b1_2 : Int) (r2 : List (Int)) (r3 : List (Int)) (step6 : Int) (num7 : Int) (den8 : Int) (head17 : Int) (high29 : Int) (s452 : Int) (s453 : Int) : w_FnSpiralsTurn_L8 r0 b1_0 b1_1 b1_2 r2 r3 step6 num7 den8 head17 high29 s452 s453 = w_FnSpiralsTurn_t8 w_FnSpiralsTurn_L1 w_FnSpiralsTurn_L2 w_FnSpiralsTurn_L3 w_FnSpiralsTurn_L4 w_FnSpiralsTurn_L5 w_FnSpiralsTurn_L6 w_FnSpiralsTurn_L7 w_FnSpiralsTurn_L8 w_FnSpiralsTurn_L9 r0 b1_0 b1_1 b1_2 r2 r3 step6 num7 den8 head17 high29 s452 s453 :=
  (congrArg (fun g => g.2.2.2.2.2.2.2.1 ((r0, (b1_0, b1_1, b1_2, ()), r2, r3, ()), ((), (), step6, num7, den8, head17, (), high29, (), s452, s453, ()), ((), (), ()))) (FnCx.L_eq w_FnSpiralsTurn_ts)).trans (by kernel_rfl)
theorem w_FnSpiralsTurn_u9 (r0 : List (Int)) (b1_0 : Int) (b1_1 : Int) (b1_2 : Int) (r2 : List (Int)) (step6 : Int) (n53 : Int) : w_FnSpiralsTurn_L9 r0 b1_0 b1_1 b1_2 r2 step6 n53 = w_FnSpiralsTurn_t9 w_FnSpiralsTurn_L1 w_FnSpiralsTurn_L2 w_FnSpiralsTurn_L3 w_FnSpiralsTurn_L4 w_FnSpiralsTurn_L5 w_FnSpiralsTurn_L6 w_FnSpiralsTurn_L7 w_FnSpiralsTurn_L8 w_FnSpiralsTurn_L9 r0 b1_0 b1_1 b1_2 r2 step6 n53 :=
  (congrArg (fun g => g.2.2.2.2.2.2.2.2.1 ((r0, (b1_0, b1_1, b1_2, ()), r2, ()), ((), (), step6, (), n53, ()), ((), (), ()))) (FnCx.L_eq w_FnSpiralsTurn_ts)).trans (by kernel_rfl)
noncomputable def w_FnSpiralsTurn (code0 : List Int) (more1 : List Int) : Option Bool := w_FnSpiralsTurn_t0 w_FnSpiralsTurn_L1 w_FnSpiralsTurn_L2 w_FnSpiralsTurn_L3 w_FnSpiralsTurn_L4 w_FnSpiralsTurn_L5 w_FnSpiralsTurn_L6 w_FnSpiralsTurn_L7 w_FnSpiralsTurn_L8 w_FnSpiralsTurn_L9 code0 more1
theorem w_FnSpiralsTurn_e (code0 : List Int) (more1 : List Int) : c_w_FnSpiralsTurn.start c_w_FnSpiralsTurn.L (code0, more1, ()) = w_FnSpiralsTurn code0 more1 := by kernel_rfl
noncomputable def F_w_FnSpiralsTurn : Ins c_w_FnSpiralsTurn.ins → Option Bool := fun x => w_FnSpiralsTurn x.1 x.2.1
noncomputable def S_w_FnSpiralsTurn : FSpec := mkF c_w_FnSpiralsTurn.env.pre c_w_FnSpiralsTurn.ins c_w_FnSpiralsTurn.out c_w_FnSpiralsTurn.inj F_w_FnSpiralsTurn
theorem h_w_FnSpiralsTurn : Cert Try.prog 7 S_w_FnSpiralsTurn := FnCx.certF (c := c_w_FnSpiralsTurn) F_w_FnSpiralsTurn (tyOk _ _ _) (spOk ⟨h_w_big, fun _ _ _ => trivial, ⟨h_s_DrawAngleOf, fun _ _ _ => trivial, ⟨h_i_AngleOf, fun _ _ _ => trivial, ⟨h_s_AngleOf, fun _ _ _ => trivial, ⟨h_i_StepsAbove, fun _ _ _ => trivial, ⟨h_s_StepsAbove, fun _ _ _ => trivial, ⟨h_i_HeadOver, fun _ _ _ => trivial, ⟨h_s_HeadOver, fun _ _ _ => trivial, ⟨h_i_OppositeSteps, fun _ _ _ => trivial, ⟨h_s_OppositeSteps, fun _ _ _ => trivial, ⟨h_i_SideOf, fun _ _ _ => trivial, ⟨h_s_SideOf, fun _ _ _ => trivial, ⟨h_i_HeightSpiral, fun _ _ _ => trivial, ⟨h_s_HeightSpiral, fun _ _ _ => trivial, ⟨h_i_CountSides, fun _ _ _ => trivial, ⟨h_s_CountSides, fun _ _ _ => trivial, ⟨h_i_TurnsOf, fun _ _ _ => trivial, ⟨h_s_TurnsOf, fun _ _ _ => trivial, ⟨h_w_wSame, fun _ _ _ => trivial, ⟨h_i_IsSpiral, fun _ _ _ => trivial, ⟨h_s_IsSpiral, fun _ _ _ => trivial, ⟨h_w_wIs, fun _ _ _ => trivial, ⟨h_w_wSum, fun _ _ _ => trivial, ⟨h_i_StepsAtSide, fun _ _ _ => trivial, ⟨h_w_wRises, fun _ _ _ => trivial, ⟨h_w_wHas, fun _ _ _ => trivial, ⟨h_i_AreOpposite, fun _ _ _ => trivial, ⟨h_i_ApartAround, fun _ _ _ => trivial, ⟨h_s_DrawApartAround, fun _ _ _ => trivial, ⟨h_s_ApartAround, fun _ _ _ => trivial, ⟨h_s_AreOpposite, fun _ _ _ => trivial, ⟨h_s_DrawStepsAtSide, fun _ _ _ => trivial, ⟨h_s_StepsAtSide, fun _ _ _ => trivial, ⟨h_s_DrawLeastRound, fun _ _ _ => trivial, ⟨h_i_LeastRound, fun _ _ _ => trivial, ⟨h_s_LeastRound, fun _ _ _ => trivial, trivial⟩⟩⟩⟩⟩⟩⟩⟩⟩⟩⟩⟩⟩⟩⟩⟩⟩⟩⟩⟩⟩⟩⟩⟩⟩⟩⟩⟩⟩⟩⟩⟩⟩⟩⟩⟩) (fun _ _ _ _ _ hs => evDr_ok (tyOk _ _ _) hs follows) Try.func7 rfl rfl Try.ntmps7 (by kernel_rfl) rfl rfl (fun _ => rfl) w_FnSpiralsTurn_ts w_FnSpiralsTurn_hs (fun x t hb ht => by
  obtain ⟨code0, more1, _⟩ := x
  exact (w_FnSpiralsTurn_e code0 more1).trans ht)
end Go.Proofs.Ythenlapjhlljnaa.V
