/- Functions of the program, as plain functions. No condition. -/
import Derived.Test.YtbemnabojjiikaaB8
set_option linter.unusedVariables false
set_option linter.unusedSimpArgs false
set_option maxRecDepth 100000
namespace Go.Proofs.Ytbemnabojjiikaa.V
open Go Go.Ev Go.Proofs
/-! laws.szIntS -/
noncomputable def c_w_szIntS : FnCx := { env := env 12 [] [], body := bodyOf Try.f72, res := [.tmp 4], ins := [.ro kSint, .ro kint], out := [(kint, true)], T := Int, fin := fun r => r.1.1, inj := fun t => ((t, ()), ((), (), ())), pts := [], fuel := 400, dr := noDr }
noncomputable def w_szIntS (a0 : List Int) (left1 : Int) : Int :=
  bif decide (IntKind.wrap IntKind.i64 (left1 - (↑(List.length a0) : Int)) < 0) then -1 else IntKind.wrap IntKind.i64 (left1 - (↑(List.length a0) : Int))
theorem w_szIntS_e (a0 : List Int) (left1 : Int) : c_w_szIntS.start c_w_szIntS.L (a0, left1, ()) = some (w_szIntS a0 left1) := by
  refine Eq.trans (b := (bif decide (IntKind.wrap IntKind.i64 (left1 - (↑(List.length a0) : Int)) < 0) then some (-1) else some (IntKind.wrap IntKind.i64 (left1 - (↑(List.length a0) : Int))) : Option Int)) (by kernel_rfl) ?_
  unfold w_szIntS
  repeat (first | rfl | apply condS)
noncomputable def F_w_szIntS : Ins c_w_szIntS.ins → Int := fun x => w_szIntS x.1 x.2.1
noncomputable def S_w_szIntS : FSpec := mkT c_w_szIntS.env.pre c_w_szIntS.ins c_w_szIntS.out c_w_szIntS.inj F_w_szIntS
theorem h_w_szIntS : Cert Try.prog 72 S_w_szIntS := FnCx.certT (c := c_w_szIntS) F_w_szIntS (tyOk _ _ _) (spOk trivial) (fun _ _ _ _ _ hs => noDr_ok) Try.func72 rfl rfl Try.ntmps72 (by kernel_rfl) rfl rfl (fun _ => rfl) trivial (fun x => .inl ⟨c_w_szIntS.start () x, fun _ => rfl⟩) (fun x hb => by
  obtain ⟨a0, left1, _⟩ := x
  exact w_szIntS_e a0 left1)
/-! laws.szStairs -/
noncomputable def c_w_szStairs : FnCx := { env := env 18 [(72, S_w_szIntS)] [], body := bodyOf Try.f15, res := [.tmp 4], ins := [.ro kwStairs, .ro kint], out := [(kint, true)], T := Int, fin := fun r => r.1.1, inj := fun t => ((t, ()), ((), (), ())), pts := [], fuel := 400, dr := noDr }
noncomputable def w_szStairs (a0_Steps : Int) (a0_Strides : List Int) (a0_Broken : List Int) (left1 : Int) : Int :=
  bif decide (w_szIntS a0_Strides left1 < 0) then -1
  else bif decide (w_szIntS a0_Broken (w_szIntS a0_Strides left1) < 0) then -1 else w_szIntS a0_Broken (w_szIntS a0_Strides left1)
theorem w_szStairs_e (a0_Steps : Int) (a0_Strides : List Int) (a0_Broken : List Int) (left1 : Int) : c_w_szStairs.start c_w_szStairs.L ((a0_Steps, a0_Strides, a0_Broken), left1, ()) = some (w_szStairs a0_Steps a0_Strides a0_Broken left1) := by
  refine Eq.trans (b := (bif decide (w_szIntS a0_Strides left1 < 0) then some (-1) else bif decide (w_szIntS a0_Broken (w_szIntS a0_Strides left1) < 0) then some (-1) else some (w_szIntS a0_Broken (w_szIntS a0_Strides left1)) : Option Int)) (by kernel_rfl) ?_
  unfold w_szStairs
  repeat (first | rfl | apply condS)
noncomputable def F_w_szStairs : Ins c_w_szStairs.ins → Int := fun x => w_szStairs x.1.1 x.1.2.1 x.1.2.2 x.2.1
noncomputable def S_w_szStairs : FSpec := mkT c_w_szStairs.env.pre c_w_szStairs.ins c_w_szStairs.out c_w_szStairs.inj F_w_szStairs
theorem h_w_szStairs : Cert Try.prog 15 S_w_szStairs := FnCx.certT (c := c_w_szStairs) F_w_szStairs (tyOk _ _ _) (spOk ⟨h_w_szIntS, fun _ _ _ => trivial, trivial⟩) (fun _ _ _ _ _ hs => noDr_ok) Try.func15 rfl rfl Try.ntmps15 (by kernel_rfl) rfl rfl (fun _ => rfl) trivial (fun x => .inl ⟨c_w_szStairs.start () x, fun _ => rfl⟩) (fun x hb => by
  obtain ⟨⟨a0_Steps, a0_Strides, a0_Broken⟩, left1, _⟩ := x
  exact w_szStairs_e a0_Steps a0_Strides a0_Broken left1)
/-! laws.toIntS -/
noncomputable def c_w_toIntS : FnCx := { env := env 22 [] [], body := bodyOf Try.f77, res := [.tmp 2], ins := [.ro kSint], out := [(kSint, true)], T := List Int, fin := fun r => r.1.1, inj := fun t => ((t, ()), ((), ())), pts := [([.inLoop [1, 1, 0, 1, 0, 0], .inBlock 0, .code [1, 1, 1]], Shape.mk [Bs.row kint 3 false, Bs.row kint 3 true] [(0, Ss.one (Cs.sl 0)), (3, Ss.one (Cs.sl 1)), (4, Ss.one (Cs.sc kint))] [Ss.one (Cs.any)])], fuel := 400, dr := noDr }
noncomputable def w_toIntS_t1 (g1 : List (Int) → List (Int) → Int → Option (List Int)) (r0 : List (Int)) (r1 : List (Int)) (i4 : Int) : Option (List Int) :=
  bif decide (i4 < (↑(List.length r0) : Int)) then
    bif decide (0 ≤ i4) then
      bif decide (i4 < (↑(List.length r0) : Int)) then
        bif decide (0 ≤ i4) then
          bif decide (i4 < (↑(List.length r1) : Int)) then g1 r0 (List.set r1 (Int.toNat i4) (rdk kint r0 i4)) (IntKind.wrap IntKind.i64 (i4 + 1))
          else none
        else none
      else none
    else none
  else some r1
noncomputable def w_toIntS_t0 (g1 : List (Int) → List (Int) → Int → Option (List Int)) (a0 : List Int) : Option (List Int) :=
  bif (↑(List.length a0) : Int) == (↑(List.length a0) : Int) then
    bif decide ((↑(List.length a0) : Int) ≤ (↑4294967296 : Int)) then g1 a0 (List.replicate (Int.toNat (↑(List.length a0) : Int)) (Kd.zero kint)) 0 else none
  else none
theorem w_toIntS_ts : Tails c_w_toIntS.pts c_w_toIntS.round :=
  ⟨fun s => by
    obtain ⟨⟨r0, r1, _⟩, ⟨_, _, i4, _⟩, ⟨_, _⟩⟩ := s
    refine Tail.eq (Y := fun g => w_toIntS_t1 (fun r0 r1 i4 => g.1 ((r0, r1, ()), ((), (), i4, ()), ((), ()))) r0 r1 i4) ?_ (fun g => by kernel_rfl)
    simp only [w_toIntS_t1]; repeat (first | exact Tail.const _ | exact Tail.here _ | exact Tail.there (Tail.here _) | exact Tail.there (Tail.there (Tail.here _)) | exact Tail.there (Tail.there (Tail.there (Tail.here _))) | exact Tail.there (Tail.there (Tail.there (Tail.there (Tail.here _)))) | exact Tail.there (Tail.there (Tail.there (Tail.there (Tail.there (Tail.here _))))) | apply Tail.cond | (apply Tail.bind; intro _)), trivial⟩
theorem w_toIntS_hs : ∀ x, Tail c_w_toIntS.pts (fun g => c_w_toIntS.start g x) := fun x => by
    obtain ⟨a0, _⟩ := x
    refine Tail.eq (Y := fun g => w_toIntS_t0 (fun r0 r1 i4 => g.1 ((r0, r1, ()), ((), (), i4, ()), ((), ()))) a0) ?_ (fun g => by kernel_rfl)
    simp only [w_toIntS_t0]; repeat (first | exact Tail.const _ | exact Tail.here _ | exact Tail.there (Tail.here _) | exact Tail.there (Tail.there (Tail.here _)) | exact Tail.there (Tail.there (Tail.there (Tail.here _))) | exact Tail.there (Tail.there (Tail.there (Tail.there (Tail.here _)))) | exact Tail.there (Tail.there (Tail.there (Tail.there (Tail.there (Tail.here _))))) | apply Tail.cond | (apply Tail.bind; intro _))
noncomputable def w_toIntS_L1 (r0 : List (Int)) (r1 : List (Int)) (i4 : Int) : Option (List Int) := c_w_toIntS.L.1 ((r0, r1, ()), ((), (), i4, ()), ((), ()))
theorem w_toIntS_u1 (r0 : List (Int)) (r1 : List (Int)) (i4 : Int) : w_toIntS_L1 r0 r1 i4 = w_toIntS_t1 w_toIntS_L1 r0 r1 i4 :=
  (congrArg (fun g => g.1 ((r0, r1, ()), ((), (), i4, ()), ((), ()))) (FnCx.L_eq w_toIntS_ts)).trans (by kernel_rfl)
noncomputable def w_toIntS (a0 : List Int) : Option (List Int) := w_toIntS_t0 w_toIntS_L1 a0
theorem w_toIntS_e (a0 : List Int) : c_w_toIntS.start c_w_toIntS.L (a0, ()) = w_toIntS a0 := by kernel_rfl
-- NICE opt
noncomputable def w_toIntS_n (a0 : List Int) : Option (List Int) := bif decide (a0.length ≤ 4294967296) then some a0 else none
theorem w_toIntS_ok (a0 : List Int) (hb : BdI c_w_toIntS.ins (a0, ())) (t : List Int) (ht : w_toIntS_n a0 = some t) : w_toIntS a0 = some t := by
  unfold w_toIntS_n at ht
  cases h : decide (a0.length ≤ 4294967296)
  · rw [h] at ht; cases ht
  · rw [h] at ht; cases ht
    have h := of_decide_eq_true h
    have e := loop_set (L := fun i r => w_toIntS_L1 a0 r (i : Int)) (l := a0) (f := id) (e := id)
      (fun i h r hr => by
        simp only [w_toIntS_u1 a0 r i, w_toIntS_t1, rdk_get (k := kint) h, wrapS h hb.1.1, Int.toNat_natCast]
        simp [h, hr])
      (fun r => by simp [w_toIntS_u1 a0 r a0.length, w_toIntS_t1]) (List.replicate a0.length (Kd.zero kint)) (by simp)
    have h' : ((a0.length : Int) ≤ 4294967296) := by omega
    simp [w_toIntS, w_toIntS_t0, h']
    simpa using e
noncomputable def F_w_toIntS : Ins c_w_toIntS.ins → Option (List Int) := fun x => w_toIntS_n x.1
noncomputable def S_w_toIntS : FSpec := mkF c_w_toIntS.env.pre c_w_toIntS.ins c_w_toIntS.out c_w_toIntS.inj F_w_toIntS
theorem h_w_toIntS : Cert Try.prog 77 S_w_toIntS := FnCx.certF (c := c_w_toIntS) F_w_toIntS (tyOk _ _ _) (spOk trivial) (fun _ _ _ _ _ hs => noDr_ok) Try.func77 rfl rfl Try.ntmps77 (by kernel_rfl) rfl rfl (fun _ => rfl) w_toIntS_ts w_toIntS_hs (fun x t hb ht => by
  obtain ⟨a0, _⟩ := x
  exact (w_toIntS_e a0).trans (w_toIntS_ok a0 hb t ht))
/-! laws.toStairs -/
noncomputable def c_w_toStairs : FnCx := { env := env 16 [(77, S_w_toIntS)] [], body := bodyOf Try.f17, res := [.cell 2 31], ins := [.ro kwStairs], out := [(kStairs, true)], T := (Int × List Int × List Int), fin := fun r => r.1.1, inj := fun t => ((t, ()), ((), ())), pts := [], fuel := 400, dr := noDr }
noncomputable def w_toStairs (a0_Steps : Int) (a0_Strides : List Int) (a0_Broken : List Int) : Option ((Int × List Int × List Int)) :=
  Option.bind (w_toIntS_n a0_Strides) fun r => Option.bind (w_toIntS_n a0_Broken) fun r_1 => some (a0_Steps, r, r_1)
theorem w_toStairs_e (a0_Steps : Int) (a0_Strides : List Int) (a0_Broken : List Int) : c_w_toStairs.start c_w_toStairs.L ((a0_Steps, a0_Strides, a0_Broken), ()) = w_toStairs a0_Steps a0_Strides a0_Broken := by kernel_rfl
noncomputable def F_w_toStairs : Ins c_w_toStairs.ins → Option ((Int × List Int × List Int)) := fun x => w_toStairs x.1.1 x.1.2.1 x.1.2.2
noncomputable def S_w_toStairs : FSpec := mkF c_w_toStairs.env.pre c_w_toStairs.ins c_w_toStairs.out c_w_toStairs.inj F_w_toStairs
theorem h_w_toStairs : Cert Try.prog 17 S_w_toStairs := FnCx.certF (c := c_w_toStairs) F_w_toStairs (tyOk _ _ _) (spOk ⟨h_w_toIntS, fun _ _ _ => trivial, trivial⟩) (fun _ _ _ _ _ hs => noDr_ok) Try.func17 rfl rfl Try.ntmps17 (by kernel_rfl) rfl rfl (fun _ => rfl) trivial (fun x => .inl ⟨c_w_toStairs.start () x, fun _ => rfl⟩) (fun x t hb ht => by
  obtain ⟨⟨a0_Steps, a0_Strides, a0_Broken⟩, _⟩ := x
  exact (w_toStairs_e a0_Steps a0_Strides a0_Broken).trans ht)
/-! spec.FirstSolution -/
noncomputable def c_s_FirstSolution : FnCx := { env := env 19 [(86, S_s_pzGood), (87, S_s_pzAll)] [18], body := bodyOf Try.f39, res := [.cell 2 31, .tmp 3], ins := [.ro kPuzzle], out := [(kStairs, true), (kbool, true)], T := (Int × List Int × List Int) × Bool, fin := fun r => (r.1.1, r.1.2.1), inj := fun t => ((t.1, t.2, ()), ((), ())), pts := [], fuel := 400, dr := noDr }
noncomputable def s_FirstSolution (p0_Clues : List (Int × Int × Int)) : Option ((Int × List Int × List Int) × Bool) :=
  bif !s_pzGood_n p0_Clues then some ((0, [], []), false)
  else
    Option.bind (s_pzAll p0_Clues) fun r =>
      bif (↑(List.length r) : Int) == 0 then some ((0, [], []), false)
      else
        bif decide (0 < (↑(List.length r) : Int)) then
          some
            ((Prod.fst (rdk kStairs r 0),
                Prod.fst (Prod.snd (rdk kStairs r 0)),
                Prod.snd (Prod.snd (rdk kStairs r 0))),
              true)
        else none
theorem s_FirstSolution_e (p0_Clues : List (Int × Int × Int)) : c_s_FirstSolution.start c_s_FirstSolution.L (p0_Clues, ()) = s_FirstSolution p0_Clues := by kernel_rfl
noncomputable def F_s_FirstSolution : Ins c_s_FirstSolution.ins → Option ((Int × List Int × List Int) × Bool) := fun x => s_FirstSolution x.1
noncomputable def S_s_FirstSolution : FSpec := mkF c_s_FirstSolution.env.pre c_s_FirstSolution.ins c_s_FirstSolution.out c_s_FirstSolution.inj F_s_FirstSolution
theorem h_s_FirstSolution : Cert Try.prog 39 S_s_FirstSolution := FnCx.certF (c := c_s_FirstSolution) F_s_FirstSolution (tyOk _ _ _) (spOk ⟨h_s_pzGood, fun _ _ _ => trivial, ⟨h_s_pzAll, fun _ _ _ => trivial, trivial⟩⟩) (fun _ _ _ _ _ hs => noDr_ok) Try.func39 rfl rfl Try.ntmps39 (by kernel_rfl) rfl rfl (fun _ => rfl) trivial (fun x => .inl ⟨c_s_FirstSolution.start () x, fun _ => rfl⟩) (fun x t hb ht => by
  obtain ⟨p0_Clues, _⟩ := x
  exact (s_FirstSolution_e p0_Clues).trans ht)
/-! impl.FirstSolution -/
noncomputable def c_i_FirstSolution : FnCx := { env := env 22 [(45, S_i_Solutions)] [21], body := bodyOf Try.f40, res := [.cell 2 31, .tmp 3], ins := [.ro kPuzzle], out := [(kStairs, true), (kbool, true)], T := (Int × List Int × List Int) × Bool, fin := fun r => (r.1.1, r.1.2.1), inj := fun t => ((t.1, t.2, ()), ((), ())), pts := [], fuel := 400, dr := noDr }
noncomputable def i_FirstSolution (p0_Clues : List (Int × Int × Int)) : Option ((Int × List Int × List Int) × Bool) :=
  Option.bind (i_Solutions p0_Clues) fun r =>
    bif !Prod.snd r then some ((0, [], []), false)
    else
      bif (↑(List.length (Prod.fst r)) : Int) == 0 then some ((0, [], []), false)
      else
        bif decide (0 < (↑(List.length (Prod.fst r)) : Int)) then
          some
            ((Prod.fst (rdk kStairs (Prod.fst r) 0),
                Prod.fst
                  (Prod.snd (rdk kStairs (Prod.fst r) 0)),
                Prod.snd
                  (Prod.snd (rdk kStairs (Prod.fst r) 0))),
              true)
        else none
theorem i_FirstSolution_e (p0_Clues : List (Int × Int × Int)) : c_i_FirstSolution.start c_i_FirstSolution.L (p0_Clues, ()) = i_FirstSolution p0_Clues := by kernel_rfl
noncomputable def F_i_FirstSolution : Ins c_i_FirstSolution.ins → Option ((Int × List Int × List Int) × Bool) := fun x => i_FirstSolution x.1
noncomputable def S_i_FirstSolution : FSpec := mkF c_i_FirstSolution.env.pre c_i_FirstSolution.ins c_i_FirstSolution.out c_i_FirstSolution.inj F_i_FirstSolution
theorem h_i_FirstSolution : Cert Try.prog 40 S_i_FirstSolution := FnCx.certF (c := c_i_FirstSolution) F_i_FirstSolution (tyOk _ _ _) (spOk ⟨h_i_Solutions, fun _ _ _ => trivial, trivial⟩) (fun _ _ _ _ _ hs => noDr_ok) Try.func40 rfl rfl Try.ntmps40 (by kernel_rfl) rfl rfl (fun _ => rfl) trivial (fun x => .inl ⟨c_i_FirstSolution.start () x, fun _ => rfl⟩) (fun x t hb ht => by
  obtain ⟨p0_Clues, _⟩ := x
  exact (i_FirstSolution_e p0_Clues).trans ht)
/-! laws.eqStairs -/
noncomputable def c_w_eqStairs : FnCx := { env := env 22 [(34, S_w_eqIntS)] [], body := bodyOf Try.f20, res := [.tmp 4], ins := [.ro kStairs, .ro kStairs], out := [(kbool, true)], T := Bool, fin := fun r => r.1.1, inj := fun t => ((t, ()), ((), (), ())), pts := [], fuel := 400, dr := noDr }
noncomputable def w_eqStairs (a0_Steps : Int) (a0_Strides : List Int) (a0_Broken : List Int) (b1_Steps : Int) (b1_Strides : List Int) (b1_Broken : List Int) : Bool :=
  bif a0_Steps != b1_Steps then false else bif !w_eqIntS_n a0_Strides b1_Strides then false else bif !w_eqIntS_n a0_Broken b1_Broken then false else true
theorem w_eqStairs_e (a0_Steps : Int) (a0_Strides : List Int) (a0_Broken : List Int) (b1_Steps : Int) (b1_Strides : List Int) (b1_Broken : List Int) : c_w_eqStairs.start c_w_eqStairs.L ((a0_Steps, a0_Strides, a0_Broken), (b1_Steps, b1_Strides, b1_Broken), ()) = some (w_eqStairs a0_Steps a0_Strides a0_Broken b1_Steps b1_Strides b1_Broken) := by
  refine Eq.trans (b := (bif a0_Steps != b1_Steps then some false else bif !w_eqIntS_n a0_Strides b1_Strides then some false else bif !w_eqIntS_n a0_Broken b1_Broken then some false else some true : Option Bool)) (by kernel_rfl) ?_
  unfold w_eqStairs
  repeat (first | rfl | apply condS)
theorem szIntS_le {l : List Int} {k : Int} (h : l.length ≤ maxLen) (h0 : 0 ≤ k) (h1 : k ≤ 1048576) (hs : decide (w_szIntS l k < 0) = false) : (l.length : Int) ≤ k ∧ w_szIntS l k = k - l.length := by
  rw [maxLen_eq] at h
  unfold w_szIntS at hs ⊢
  rw [wrap64 (by omega) (by omega)] at hs ⊢
  by_cases hh : (k - (l.length : Int)) < 0
  · simp [hh] at hs
  · simp [hh]; omega
theorem szStairs_le {a : Int} {b c : List Int} (h : b.length ≤ maxLen) (h' : c.length ≤ maxLen) (hs : decide (w_szStairs a b c 1048576 < 0) = false) : b.length ≤ 1048576 ∧ c.length ≤ 1048576 := by
  unfold w_szStairs at hs
  cases h1 : decide (w_szIntS b 1048576 < 0)
  · obtain ⟨g1, g2⟩ := szIntS_le h (by omega) (by omega) h1
    rw [h1] at hs
    simp only [cond_false] at hs
    cases h2 : decide (w_szIntS c (w_szIntS b 1048576) < 0)
    · obtain ⟨g3, g4⟩ := szIntS_le h' (by omega) (by omega) h2
      omega
    · rw [h2] at hs; simp at hs
  · rw [h1] at hs; simp at hs
theorem toStairs_eq {a : Int} {b c : List Int} (h : b.length ≤ 1048576) (h' : c.length ≤ 1048576) : w_toStairs a b c = some (a, b, c) := by
  unfold w_toStairs w_toIntS_n
  rw [decide_eq_true (by omega : b.length ≤ 4294967296), decide_eq_true (by omega : c.length ≤ 4294967296)]
  rfl
theorem eqStairs_eq (a b : Int × List Int × List Int) : w_eqStairs a.1 a.2.1 a.2.2 b.1 b.2.1 b.2.2 = decide (a = b) := by
  obtain ⟨a1, a2, a3⟩ := a
  obtain ⟨b1, b2, b3⟩ := b
  unfold w_eqStairs w_eqIntS_n
  by_cases h1 : a1 = b1 <;> by_cases h2 : a2 = b2 <;> by_cases h3 : a3 = b3 <;> simp [h1, h2, h3]
noncomputable def F_w_eqStairs : Ins c_w_eqStairs.ins → Bool := fun x => w_eqStairs x.1.1 x.1.2.1 x.1.2.2 x.2.1.1 x.2.1.2.1 x.2.1.2.2
noncomputable def S_w_eqStairs : FSpec := mkT c_w_eqStairs.env.pre c_w_eqStairs.ins c_w_eqStairs.out c_w_eqStairs.inj F_w_eqStairs
theorem h_w_eqStairs : Cert Try.prog 20 S_w_eqStairs := FnCx.certT (c := c_w_eqStairs) F_w_eqStairs (tyOk _ _ _) (spOk ⟨h_w_eqIntS, fun _ _ _ => trivial, trivial⟩) (fun _ _ _ _ _ hs => noDr_ok) Try.func20 rfl rfl Try.ntmps20 (by kernel_rfl) rfl rfl (fun _ => rfl) trivial (fun x => .inl ⟨c_w_eqStairs.start () x, fun _ => rfl⟩) (fun x hb => by
  obtain ⟨⟨a0_Steps, a0_Strides, a0_Broken⟩, ⟨b1_Steps, b1_Strides, b1_Broken⟩, _⟩ := x
  exact w_eqStairs_e a0_Steps a0_Strides a0_Broken b1_Steps b1_Strides b1_Broken)
/-! laws.markStairs -/
noncomputable def c_w_markStairs : FnCx := { env := env 14 [(35, S_w_markIntS)] [], body := bodyOf Try.f21, res := [.tmp 4], ins := [.wr kStairs, .ro kint], out := [(kint, true)], T := Int × (Int × List Int × List Int), fin := fun r => (r.1.1, r.2.1), inj := fun t => ((t.1, ()), (t.2, (), ())), pts := [], fuel := 400, dr := noDr }
noncomputable def w_markStairs (a0_Steps : Int) (a0_Strides : List Int) (a0_Broken : List Int) (k1 : Int) : (Int × (Int × List Int × List Int)) :=
  (markK a0_Broken (markK a0_Strides k1), a0_Steps, markL a0_Strides k1, markL a0_Broken (markK a0_Strides k1))
theorem w_markStairs_e (a0_Steps : Int) (a0_Strides : List Int) (a0_Broken : List Int) (k1 : Int) : c_w_markStairs.start c_w_markStairs.L ((a0_Steps, a0_Strides, a0_Broken), k1, ()) = some (w_markStairs a0_Steps a0_Strides a0_Broken k1) := by kernel_rfl
noncomputable def F_w_markStairs : Ins c_w_markStairs.ins → (Int × (Int × List Int × List Int)) := fun x => w_markStairs x.1.1 x.1.2.1 x.1.2.2 x.2.1
noncomputable def S_w_markStairs : FSpec := mkT c_w_markStairs.env.pre c_w_markStairs.ins c_w_markStairs.out c_w_markStairs.inj F_w_markStairs
theorem h_w_markStairs : Cert Try.prog 21 S_w_markStairs := FnCx.certT (c := c_w_markStairs) F_w_markStairs (tyOk _ _ _) (spOk ⟨h_w_markIntS, fun _ _ _ => trivial, trivial⟩) (fun _ _ _ _ _ hs => noDr_ok) Try.func21 rfl rfl Try.ntmps21 (by kernel_rfl) rfl rfl (fun _ => rfl) trivial (fun x => .inl ⟨c_w_markStairs.start () x, fun _ => rfl⟩) (fun x hb => by
  obtain ⟨⟨a0_Steps, a0_Strides, a0_Broken⟩, k1, _⟩ := x
  exact w_markStairs_e a0_Steps a0_Strides a0_Broken k1)
/-! laws.heldStairs -/
noncomputable def c_w_heldStairs : FnCx := { env := env 18 [(36, S_w_heldIntS)] [], body := bodyOf Try.f41, res := [.tmp 4], ins := [.ro kStairs, .ro kint], out := [(kint, true)], T := Int, fin := fun r => r.1.1, inj := fun t => ((t, ()), ((), (), ())), pts := [], fuel := 400, dr := noDr }
noncomputable def w_heldStairs (a0_Steps : Int) (a0_Strides : List Int) (a0_Broken : List Int) (k1 : Int) : Int :=
  bif decide (w_heldIntS_n a0_Strides k1 < 0) then -1
  else bif decide (w_heldIntS_n a0_Broken (w_heldIntS_n a0_Strides k1) < 0) then -1 else w_heldIntS_n a0_Broken (w_heldIntS_n a0_Strides k1)
theorem w_heldStairs_e (a0_Steps : Int) (a0_Strides : List Int) (a0_Broken : List Int) (k1 : Int) : c_w_heldStairs.start c_w_heldStairs.L ((a0_Steps, a0_Strides, a0_Broken), k1, ()) = some (w_heldStairs a0_Steps a0_Strides a0_Broken k1) := by
  refine Eq.trans (b := (bif decide (w_heldIntS_n a0_Strides k1 < 0) then some (-1) else bif decide (w_heldIntS_n a0_Broken (w_heldIntS_n a0_Strides k1) < 0) then some (-1) else some (w_heldIntS_n a0_Broken (w_heldIntS_n a0_Strides k1)) : Option Int)) (by kernel_rfl) ?_
  unfold w_heldStairs
  repeat (first | rfl | apply condS)
/-- stairs of any sizes, marked: what is held is what was marked -/
theorem heldStairs_eq (a : Int) (b c : List Int) (h : b.length + c.length ≤ 4611686018427387904) :
    decide (markK c (markK b 1) < 0) = false ∧ w_heldStairs a (markL b 1) (markL c (markK b 1)) 1 = markK c (markK b 1) := by
  have e1 : markK b 1 = 1 + b.length := markK_eq b 1 (by omega) (by omega)
  have e2 : markK c (1 + b.length) = 1 + b.length + c.length := markK_eq c _ (by omega) (by omega)
  have h1 : ¬ (1 + (b.length : Int) < 0) := by omega
  have h2 : ¬ (1 + (b.length : Int) + c.length < 0) := by omega
  constructor
  · rw [e1, e2]; simp [h2]
  · unfold w_heldStairs w_heldIntS_n
    rw [held_mark, held_mark, e1, e2]
    simp [h1, h2]
noncomputable def F_w_heldStairs : Ins c_w_heldStairs.ins → Int := fun x => w_heldStairs x.1.1 x.1.2.1 x.1.2.2 x.2.1
noncomputable def S_w_heldStairs : FSpec := mkT c_w_heldStairs.env.pre c_w_heldStairs.ins c_w_heldStairs.out c_w_heldStairs.inj F_w_heldStairs
theorem h_w_heldStairs : Cert Try.prog 41 S_w_heldStairs := FnCx.certT (c := c_w_heldStairs) F_w_heldStairs (tyOk _ _ _) (spOk ⟨h_w_heldIntS, fun _ _ _ => trivial, trivial⟩) (fun _ _ _ _ _ hs => noDr_ok) Try.func41 rfl rfl Try.ntmps41 (by kernel_rfl) rfl rfl (fun _ => rfl) trivial (fun x => .inl ⟨c_w_heldStairs.start () x, fun _ => rfl⟩) (fun x hb => by
  obtain ⟨⟨a0_Steps, a0_Strides, a0_Broken⟩, k1, _⟩ := x
  exact w_heldStairs_e a0_Steps a0_Strides a0_Broken k1)
/-! laws.FnExactFirstSolution -/
noncomputable def c_w_FnExactFirstSolution : FnCx := { env := env 96 [(24, S_w_szPuzzle), (26, S_w_toPuzzle), (39, S_s_FirstSolution), (40, S_i_FirstSolution), (20, S_w_eqStairs), (19, S_w_eqPuzzle), (22, S_w_markPuzzle), (21, S_w_markStairs), (41, S_w_heldStairs)] [], body := bodyOf Try.f9, res := [.tmp 2], ins := [.ro kwPuzzle], out := [(kbool, true)], T := Bool, fin := fun r => r.1.1, inj := fun t => ((t, ()), ((), ())), pts := [], fuel := 400, dr := evDr (env 96 [(24, S_w_szPuzzle), (26, S_w_toPuzzle), (39, S_s_FirstSolution), (40, S_i_FirstSolution), (20, S_w_eqStairs), (19, S_w_eqPuzzle), (22, S_w_markPuzzle), (21, S_w_markStairs), (41, S_w_heldStairs)] []) }
noncomputable def w_FnExactFirstSolution (aP0_Clues : List (Int × Int × Int)) : Option Bool :=
  bif decide (w_szPuzzle aP0_Clues 1048576 < 0) then some true
  else
    Option.bind (w_toPuzzle aP0_Clues) fun r =>
      Option.bind (s_FirstSolution r) fun r =>
        Option.bind (w_toPuzzle aP0_Clues) fun r_1 =>
          Option.bind (i_FirstSolution r_1) fun r_2 =>
            bif
                !w_eqStairs (Prod.fst (Prod.fst r_2)) (Prod.fst (Prod.snd (Prod.fst r_2))) (Prod.snd (Prod.snd (Prod.fst r_2))) (Prod.fst (Prod.fst r))
                    (Prod.fst (Prod.snd (Prod.fst r))) (Prod.snd (Prod.snd (Prod.fst r))) then
              some false
            else
              bif !Prod.snd r_2 == Prod.snd r then some false
              else
                Option.bind (w_toPuzzle aP0_Clues) fun r_3 =>
                  bif !w_eqPuzzle r_1 r_3 then some false
                  else
                    bif decide (markGK nxClue r_1 1 < 0) then some false
                    else
                      bif
                          !w_eqStairs (Prod.fst (Prod.fst r_2)) (Prod.fst (Prod.snd (Prod.fst r_2))) (Prod.snd (Prod.snd (Prod.fst r_2))) (Prod.fst (Prod.fst r))
                              (Prod.fst (Prod.snd (Prod.fst r))) (Prod.snd (Prod.snd (Prod.fst r))) then
                        some false
                      else
                        bif !Prod.snd r_2 == Prod.snd r then some false
                        else
                          bif
                              decide
                                (w_heldStairs (Prod.fst (Prod.fst r_2)) (markL (Prod.fst (Prod.snd (Prod.fst r_2))) 1)
                                    (markL (Prod.snd (Prod.snd (Prod.fst r_2))) (markK (Prod.fst (Prod.snd (Prod.fst r_2))) 1)) 1 <
                                  0) then
                            some false
                          else
                            bif
                                w_heldStairs (Prod.fst (Prod.fst r_2)) (markL (Prod.fst (Prod.snd (Prod.fst r_2))) 1)
                                    (markL (Prod.snd (Prod.snd (Prod.fst r_2))) (markK (Prod.fst (Prod.snd (Prod.fst r_2))) 1)) 1 !=
                                  markK (Prod.snd (Prod.snd (Prod.fst r_2))) (markK (Prod.fst (Prod.snd (Prod.fst r_2))) 1) then
                              some false
                            else
                              Option.bind (w_toPuzzle aP0_Clues) fun r_4 =>
                                Option.bind (i_FirstSolution r_4) fun r_5 =>
                                  bif
                                      !w_eqStairs (Prod.fst (Prod.fst r_5)) (Prod.fst (Prod.snd (Prod.fst r_5))) (Prod.snd (Prod.snd (Prod.fst r_5)))
                                          (Prod.fst (Prod.fst r)) (Prod.fst (Prod.snd (Prod.fst r))) (Prod.snd (Prod.snd (Prod.fst r))) then
                                    some false
                                  else
                                    bif !Prod.snd r_5 == Prod.snd r then some false
                                    else
                                      bif
                                          decide
                                            (w_heldStairs (Prod.fst (Prod.fst r_2)) (markL (Prod.fst (Prod.snd (Prod.fst r_2))) 1)
                                                (markL (Prod.snd (Prod.snd (Prod.fst r_2))) (markK (Prod.fst (Prod.snd (Prod.fst r_2))) 1)) 1 <
                                              0) then
                                        some false
                                      else
                                        bif
                                            w_heldStairs (Prod.fst (Prod.fst r_2)) (markL (Prod.fst (Prod.snd (Prod.fst r_2))) 1)
                                                (markL (Prod.snd (Prod.snd (Prod.fst r_2))) (markK (Prod.fst (Prod.snd (Prod.fst r_2))) 1)) 1 !=
                                              markK (Prod.snd (Prod.snd (Prod.fst r_2))) (markK (Prod.fst (Prod.snd (Prod.fst r_2))) 1) then
                                          some false
                                        else some true
theorem w_FnExactFirstSolution_e (aP0_Clues : List (Int × Int × Int)) : c_w_FnExactFirstSolution.start c_w_FnExactFirstSolution.L (aP0_Clues, ()) = w_FnExactFirstSolution aP0_Clues := by kernel_rfl
noncomputable def F_w_FnExactFirstSolution : Ins c_w_FnExactFirstSolution.ins → Option Bool := fun x => w_FnExactFirstSolution x.1
noncomputable def S_w_FnExactFirstSolution : FSpec := mkF c_w_FnExactFirstSolution.env.pre c_w_FnExactFirstSolution.ins c_w_FnExactFirstSolution.out c_w_FnExactFirstSolution.inj F_w_FnExactFirstSolution
theorem h_w_FnExactFirstSolution : Cert Try.prog 9 S_w_FnExactFirstSolution := FnCx.certF (c := c_w_FnExactFirstSolution) F_w_FnExactFirstSolution (tyOk _ _ _) (spOk ⟨h_w_szPuzzle, fun _ _ _ => trivial, ⟨h_w_toPuzzle, fun _ _ _ => trivial, ⟨h_s_FirstSolution, fun _ _ _ => trivial, ⟨h_i_FirstSolution, fun _ _ _ => trivial, ⟨h_w_eqStairs, fun _ _ _ => trivial, ⟨h_w_eqPuzzle, fun _ _ _ => trivial, ⟨h_w_markPuzzle, fun _ _ _ => trivial, ⟨h_w_markStairs, fun _ _ _ => trivial, ⟨h_w_heldStairs, fun _ _ _ => trivial, trivial⟩⟩⟩⟩⟩⟩⟩⟩⟩) (fun _ _ _ _ _ hs => evDr_ok (tyOk _ _ _) hs follows) Try.func9 rfl rfl Try.ntmps9 (by kernel_rfl) rfl rfl (fun _ => rfl) trivial (fun x => .inl ⟨c_w_FnExactFirstSolution.start () x, fun _ => rfl⟩) (fun x t hb ht => by
  obtain ⟨aP0_Clues, _⟩ := x
  exact (w_FnExactFirstSolution_e aP0_Clues).trans ht)
end Go.Proofs.Ytbemnabojjiikaa.V
