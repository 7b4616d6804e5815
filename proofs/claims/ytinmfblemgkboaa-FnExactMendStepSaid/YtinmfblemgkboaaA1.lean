/- Functions of the program, as plain functions. No condition. -/
import Derived.Test.YtinmfblemgkboaaTy
set_option linter.unusedVariables false
set_option linter.unusedSimpArgs false
set_option maxRecDepth 100000
namespace Go.Proofs.Ytinmfblemgkboaa.V
open Go Go.Ev Go.Proofs
/-! laws.szClueS -/
noncomputable def c_w_szClueS : FnCx := { env := env 12 [] [], body := bodyOf Try.f106, res := [.tmp 4], ins := [.ro kSwClue, .ro kint], out := [(kint, true)], T := Int, fin := fun r => r.1.1, inj := fun t => ((t, ()), ((), (), ())), pts := [], fuel := 400, dr := noDr }
noncomputable def w_szClueS (a0 : List (Int × Int × Int)) (left1 : Int) : Int :=
  bif decide (IntKind.wrap IntKind.i64 (left1 - (↑(List.length a0) : Int)) < 0) then -1 else IntKind.wrap IntKind.i64 (left1 - (↑(List.length a0) : Int))
theorem w_szClueS_e (a0 : List (Int × Int × Int)) (left1 : Int) : c_w_szClueS.start c_w_szClueS.L (a0, left1, ()) = some (w_szClueS a0 left1) := by
  refine Eq.trans (b := (bif decide (IntKind.wrap IntKind.i64 (left1 - (↑(List.length a0) : Int)) < 0) then some (-1) else some (IntKind.wrap IntKind.i64 (left1 - (↑(List.length a0) : Int))) : Option Int)) (by kernel_rfl) ?_
  unfold w_szClueS
  repeat (first | rfl | apply condS)
noncomputable def F_w_szClueS : Ins c_w_szClueS.ins → Int := fun x => w_szClueS x.1 x.2.1
noncomputable def S_w_szClueS : FSpec := mkT c_w_szClueS.env.pre c_w_szClueS.ins c_w_szClueS.out c_w_szClueS.inj F_w_szClueS
theorem h_w_szClueS : Cert Try.prog 106 S_w_szClueS := FnCx.certT (c := c_w_szClueS) F_w_szClueS (tyOk _ _ _) (spOk trivial) (fun _ _ _ _ _ hs => noDr_ok) Try.func106 rfl rfl Try.ntmps106 (by kernel_rfl) rfl rfl (fun _ => rfl) trivial (fun x => .inl ⟨c_w_szClueS.start () x, fun _ => rfl⟩) (fun x hb => by
  obtain ⟨a0, left1, _⟩ := x
  exact w_szClueS_e a0 left1)
/-! laws.szPuzzle -/
noncomputable def c_w_szPuzzle : FnCx := { env := env 12 [(106, S_w_szClueS)] [], body := bodyOf Try.f23, res := [.tmp 4], ins := [.ro kwPuzzle, .ro kint], out := [(kint, true)], T := Int, fin := fun r => r.1.1, inj := fun t => ((t, ()), ((), (), ())), pts := [], fuel := 400, dr := noDr }
noncomputable def w_szPuzzle (a0_Clues : List (Int × Int × Int)) (left1 : Int) : Int :=
  bif decide (w_szClueS a0_Clues left1 < 0) then -1 else w_szClueS a0_Clues left1
theorem w_szPuzzle_e (a0_Clues : List (Int × Int × Int)) (left1 : Int) : c_w_szPuzzle.start c_w_szPuzzle.L (a0_Clues, left1, ()) = some (w_szPuzzle a0_Clues left1) := by
  refine Eq.trans (b := (bif decide (w_szClueS a0_Clues left1 < 0) then some (-1) else some (w_szClueS a0_Clues left1) : Option Int)) (by kernel_rfl) ?_
  unfold w_szPuzzle
  repeat (first | rfl | apply condS)
noncomputable def F_w_szPuzzle : Ins c_w_szPuzzle.ins → Int := fun x => w_szPuzzle x.1 x.2.1
noncomputable def S_w_szPuzzle : FSpec := mkT c_w_szPuzzle.env.pre c_w_szPuzzle.ins c_w_szPuzzle.out c_w_szPuzzle.inj F_w_szPuzzle
theorem h_w_szPuzzle : Cert Try.prog 23 S_w_szPuzzle := FnCx.certT (c := c_w_szPuzzle) F_w_szPuzzle (tyOk _ _ _) (spOk ⟨h_w_szClueS, fun _ _ _ => trivial, trivial⟩) (fun _ _ _ _ _ hs => noDr_ok) Try.func23 rfl rfl Try.ntmps23 (by kernel_rfl) rfl rfl (fun _ => rfl) trivial (fun x => .inl ⟨c_w_szPuzzle.start () x, fun _ => rfl⟩) (fun x hb => by
  obtain ⟨a0_Clues, left1, _⟩ := x
  exact w_szPuzzle_e a0_Clues left1)
/-! laws.toClue -/
noncomputable def c_w_toClue : FnCx := { env := env 14 [] [], body := bodyOf Try.f16, res := [.cell 2 25], ins := [.ro kwClue], out := [(kClue, true)], T := (Int × Int × Int), fin := fun r => r.1.1, inj := fun t => ((t, ()), ((), ())), pts := [], fuel := 400, dr := noDr }
noncomputable def w_toClue (a0_Kind : Int) (a0_A : Int) (a0_B : Int) : (Int × Int × Int) :=
  (a0_Kind, a0_A, a0_B)
theorem w_toClue_e (a0_Kind : Int) (a0_A : Int) (a0_B : Int) : c_w_toClue.start c_w_toClue.L ((a0_Kind, a0_A, a0_B), ()) = some (w_toClue a0_Kind a0_A a0_B) := by kernel_rfl
noncomputable def F_w_toClue : Ins c_w_toClue.ins → (Int × Int × Int) := fun x => w_toClue x.1.1 x.1.2.1 x.1.2.2
noncomputable def S_w_toClue : FSpec := mkT c_w_toClue.env.pre c_w_toClue.ins c_w_toClue.out c_w_toClue.inj F_w_toClue
theorem h_w_toClue : Cert Try.prog 16 S_w_toClue := FnCx.certT (c := c_w_toClue) F_w_toClue (tyOk _ _ _) (spOk trivial) (fun _ _ _ _ _ hs => noDr_ok) Try.func16 rfl rfl Try.ntmps16 (by kernel_rfl) rfl rfl (fun _ => rfl) trivial (fun x => .inl ⟨c_w_toClue.start () x, fun _ => rfl⟩) (fun x hb => by
  obtain ⟨⟨a0_Kind, a0_A, a0_B⟩, _⟩ := x
  exact w_toClue_e a0_Kind a0_A a0_B)
/-! laws.toClueS -/
noncomputable def c_w_toClueS : FnCx := { env := env 23 [(16, S_w_toClue)] [], body := bodyOf Try.f108, res := [.tmp 2], ins := [.ro kSwClue], out := [(kSClue, true)], T := List (Int × Int × Int), fin := fun r => r.1.1, inj := fun t => ((t, ()), ((), ())), pts := [([.inLoop [1, 1, 0, 1, 0, 0], .inBlock 0, .code [1, 1, 1]], Shape.mk [Bs.row kwClue 23 false, Bs.row kwClue 25 true] [(0, Ss.one (Cs.sl 0)), (3, Ss.one (Cs.sl 1)), (4, Ss.one (Cs.sc kint))] [Ss.one (Cs.any)])], fuel := 400, dr := noDr }
noncomputable def w_toClueS_t1 (g1 : List (Int × (Int × Int)) → List (Int × (Int × Int)) → Int → Option (List (Int × Int × Int))) (r0 : List (Int × (Int × Int))) (r1 : List (Int × (Int × Int))) (i4 : Int) : Option (List (Int × Int × Int)) :=
  bif decide (i4 < (↑(List.length r0) : Int)) then
    bif decide (0 ≤ i4) then
      bif decide (i4 < (↑(List.length r0) : Int)) then
        bif decide (0 ≤ i4) then
          bif decide (i4 < (↑(List.length r1) : Int)) then
            g1 r0
              (List.set r1 (Int.toNat i4)
                (Prod.fst (rdk kwClue r0 i4),
                  Prod.fst (Prod.snd (rdk kwClue r0 i4)),
                  Prod.snd (Prod.snd (rdk kwClue r0 i4))))
              (IntKind.wrap IntKind.i64 (i4 + 1))
          else none
        else none
      else none
    else none
  else some r1
noncomputable def w_toClueS_t0 (g1 : List (Int × (Int × Int)) → List (Int × (Int × Int)) → Int → Option (List (Int × Int × Int))) (a0 : List (Int × Int × Int)) : Option (List (Int × Int × Int)) :=
  bif (↑(List.length a0) : Int) == (↑(List.length a0) : Int) then
    bif decide ((↑(List.length a0) : Int) ≤ (↑4294967296 : Int)) then g1 a0 (List.replicate (Int.toNat (↑(List.length a0) : Int)) (Kd.zero kClue)) 0 else none
  else none
theorem w_toClueS_ts : Tails c_w_toClueS.pts c_w_toClueS.round :=
  ⟨fun s => by
    obtain ⟨⟨r0, r1, _⟩, ⟨_, _, i4, _⟩, ⟨_, _⟩⟩ := s
    refine Tail.eq (Y := fun g => w_toClueS_t1 (fun r0 r1 i4 => g.1 ((r0, r1, ()), ((), (), i4, ()), ((), ()))) r0 r1 i4) ?_ (fun g => by kernel_rfl)
    simp only [w_toClueS_t1]; repeat (first | exact Tail.const _ | exact Tail.here _ | exact Tail.there (Tail.here _) | exact Tail.there (Tail.there (Tail.here _)) | exact Tail.there (Tail.there (Tail.there (Tail.here _))) | exact Tail.there (Tail.there (Tail.there (Tail.there (Tail.here _)))) | exact Tail.there (Tail.there (Tail.there (Tail.there (Tail.there (Tail.here _))))) | apply Tail.cond | (apply Tail.bind; intro _)), trivial⟩
theorem w_toClueS_hs : ∀ x, Tail c_w_toClueS.pts (fun g => c_w_toClueS.start g x) := fun x => by
    obtain ⟨a0, _⟩ := x
    refine Tail.eq (Y := fun g => w_toClueS_t0 (fun r0 r1 i4 => g.1 ((r0, r1, ()), ((), (), i4, ()), ((), ()))) a0) ?_ (fun g => by kernel_rfl)
    simp only [w_toClueS_t0]; repeat (first | exact Tail.const _ | exact Tail.here _ | exact Tail.there (Tail.here _) | exact Tail.there (Tail.there (Tail.here _)) | exact Tail.there (Tail.there (Tail.there (Tail.here _))) | exact Tail.there (Tail.there (Tail.there (Tail.there (Tail.here _)))) | exact Tail.there (Tail.there (Tail.there (Tail.there (Tail.there (Tail.here _))))) | apply Tail.cond | (apply Tail.bind; intro _))
noncomputable def w_toClueS_L1 (r0 : List (Int × (Int × Int))) (r1 : List (Int × (Int × Int))) (i4 : Int) : Option (List (Int × Int × Int)) := c_w_toClueS.L.1 ((r0, r1, ()), ((), (), i4, ()), ((), ()))
theorem w_toClueS_u1 (r0 : List (Int × (Int × Int))) (r1 : List (Int × (Int × Int))) (i4 : Int) : w_toClueS_L1 r0 r1 i4 = w_toClueS_t1 w_toClueS_L1 r0 r1 i4 :=
  (congrArg (fun g => g.1 ((r0, r1, ()), ((), (), i4, ()), ((), ()))) (FnCx.L_eq w_toClueS_ts)).trans (by kernel_rfl)
noncomputable def w_toClueS (a0 : List (Int × Int × Int)) : Option (List (Int × Int × Int)) := w_toClueS_t0 w_toClueS_L1 a0
theorem w_toClueS_e (a0 : List (Int × Int × Int)) : c_w_toClueS.start c_w_toClueS.L (a0, ()) = w_toClueS a0 := by kernel_rfl
-- NICE opt
noncomputable def w_toClueS_n (a0 : List (Int × Int × Int)) : Option (List (Int × Int × Int)) := bif decide (a0.length ≤ 4294967296) then some a0 else none
theorem w_toClueS_ok (a0 : List (Int × Int × Int)) (hb : BdI c_w_toClueS.ins (a0, ())) (t : List (Int × Int × Int)) (ht : w_toClueS_n a0 = some t) : w_toClueS a0 = some t := by
  unfold w_toClueS_n at ht
  cases h : decide (a0.length ≤ 4294967296)
  · rw [h] at ht; cases ht
  · rw [h] at ht; cases ht
    have h := of_decide_eq_true h
    have e := loop_set (L := fun i r => w_toClueS_L1 a0 r (i : Int)) (l := a0) (f := id) (e := id)
      (fun i h r hr => by
        simp only [w_toClueS_u1 a0 r i, w_toClueS_t1, rdk_get (k := kClue) h, wrapS h hb.1.1, Int.toNat_natCast]
        simp [h, hr])
      (fun r => by simp [w_toClueS_u1 a0 r a0.length, w_toClueS_t1]) (List.replicate a0.length (Kd.zero kClue)) (by simp)
    have h' : ((a0.length : Int) ≤ 4294967296) := by omega
    simp [w_toClueS, w_toClueS_t0, h']
    simpa using e
noncomputable def F_w_toClueS : Ins c_w_toClueS.ins → Option (List (Int × Int × Int)) := fun x => w_toClueS_n x.1
noncomputable def S_w_toClueS : FSpec := mkF c_w_toClueS.env.pre c_w_toClueS.ins c_w_toClueS.out c_w_toClueS.inj F_w_toClueS
theorem h_w_toClueS : Cert Try.prog 108 S_w_toClueS := FnCx.certF (c := c_w_toClueS) F_w_toClueS (tyOk _ _ _) (spOk ⟨h_w_toClue, fun _ _ _ => trivial, trivial⟩) (fun _ _ _ _ _ hs => noDr_ok) Try.func108 rfl rfl Try.ntmps108 (by kernel_rfl) rfl rfl (fun _ => rfl) w_toClueS_ts w_toClueS_hs (fun x t hb ht => by
  obtain ⟨a0, _⟩ := x
  exact (w_toClueS_e a0).trans (w_toClueS_ok a0 hb t ht))
/-! laws.toPuzzle -/
noncomputable def c_w_toPuzzle : FnCx := { env := env 9 [(108, S_w_toClueS)] [], body := bodyOf Try.f25, res := [.cell 2 48], ins := [.ro kwPuzzle], out := [(kPuzzle, true)], T := List (Int × Int × Int), fin := fun r => r.1.1, inj := fun t => ((t, ()), ((), ())), pts := [], fuel := 400, dr := noDr }
noncomputable def w_toPuzzle (a0_Clues : List (Int × Int × Int)) : Option (List (Int × Int × Int)) :=
  Option.bind (w_toClueS_n a0_Clues) fun r => some r
theorem w_toPuzzle_e (a0_Clues : List (Int × Int × Int)) : c_w_toPuzzle.start c_w_toPuzzle.L (a0_Clues, ()) = w_toPuzzle a0_Clues := by kernel_rfl
noncomputable def F_w_toPuzzle : Ins c_w_toPuzzle.ins → Option (List (Int × Int × Int)) := fun x => w_toPuzzle x.1
noncomputable def S_w_toPuzzle : FSpec := mkF c_w_toPuzzle.env.pre c_w_toPuzzle.ins c_w_toPuzzle.out c_w_toPuzzle.inj F_w_toPuzzle
theorem h_w_toPuzzle : Cert Try.prog 25 S_w_toPuzzle := FnCx.certF (c := c_w_toPuzzle) F_w_toPuzzle (tyOk _ _ _) (spOk ⟨h_w_toClueS, fun _ _ _ => trivial, trivial⟩) (fun _ _ _ _ _ hs => noDr_ok) Try.func25 rfl rfl Try.ntmps25 (by kernel_rfl) rfl rfl (fun _ => rfl) trivial (fun x => .inl ⟨c_w_toPuzzle.start () x, fun _ => rfl⟩) (fun x t hb ht => by
  obtain ⟨a0_Clues, _⟩ := x
  exact (w_toPuzzle_e a0_Clues).trans ht)
/-! spec.l1In -/
noncomputable def c_s_l1In : FnCx := { env := env 15 [] [], body := bodyOf Try.f132, res := [.tmp 6], ins := [.ro kint, .ro kint, .ro kint], out := [(kbool, true)], T := Bool, fin := fun r => r.1.1, inj := fun t => ((t, ()), ((), (), (), ())), pts := [], fuel := 400, dr := noDr }
noncomputable def s_l1In (n0 : Int) (lo1 : Int) (hi2 : Int) : Bool :=
  bif decide (n0 ≥ lo1) then decide (n0 ≤ hi2) else false
theorem s_l1In_e (n0 : Int) (lo1 : Int) (hi2 : Int) : c_s_l1In.start c_s_l1In.L (n0, lo1, hi2, ()) = some (s_l1In n0 lo1 hi2) := by
  refine Eq.trans (b := (bif decide (n0 ≥ lo1) then some (decide (n0 ≤ hi2)) else some false : Option Bool)) (by kernel_rfl) ?_
  unfold s_l1In
  repeat (first | rfl | apply condS)
noncomputable def F_s_l1In : Ins c_s_l1In.ins → Bool := fun x => s_l1In x.1 x.2.1 x.2.2.1
noncomputable def S_s_l1In : FSpec := mkT c_s_l1In.env.pre c_s_l1In.ins c_s_l1In.out c_s_l1In.inj F_s_l1In
theorem h_s_l1In : Cert Try.prog 132 S_s_l1In := FnCx.certT (c := c_s_l1In) F_s_l1In (tyOk _ _ _) (spOk trivial) (fun _ _ _ _ _ hs => noDr_ok) Try.func132 rfl rfl Try.ntmps132 (by kernel_rfl) rfl rfl (fun _ => rfl) trivial (fun x => .inl ⟨c_s_l1In.start () x, fun _ => rfl⟩) (fun x hb => by
  obtain ⟨n0, lo1, hi2, _⟩ := x
  exact s_l1In_e n0 lo1 hi2)
/-! spec.pzClue -/
noncomputable def c_s_pzClue : FnCx := { env := env 37 [(132, S_s_l1In)] [], body := bodyOf Try.f99, res := [.tmp 2], ins := [.ro kClue], out := [(kbool, true)], T := Bool, fin := fun r => r.1.1, inj := fun t => ((t, ()), ((), ())), pts := [], fuel := 400, dr := noDr }
noncomputable def s_pzClue (c0_Kind : Int) (c0_A : Int) (c0_B : Int) : Bool :=
  bif !s_l1In c0_B 0 60 then false
  else
    bif c0_Kind == 0 then c0_A == 0
    else
      bif c0_Kind == 1 then c0_A == 0
      else
        bif c0_Kind == 4 then c0_A == 0
        else
          bif c0_Kind == 5 then c0_A == 0
          else
            bif c0_Kind == 2 then bif s_l1In c0_A 1 3 then decide (c0_B < 2) else false
            else bif c0_Kind == 3 then bif s_l1In c0_A 1 7 then decide (c0_B < 2) else false else false
theorem s_pzClue_e (c0_Kind : Int) (c0_A : Int) (c0_B : Int) : c_s_pzClue.start c_s_pzClue.L ((c0_Kind, c0_A, c0_B), ()) = some (s_pzClue c0_Kind c0_A c0_B) := by
  refine Eq.trans (b := (bif !s_l1In c0_B 0 60 then some false else bif c0_Kind == 0 then some (c0_A == 0) else bif c0_Kind == 1 then some (c0_A == 0) else bif c0_Kind == 4 then some (c0_A == 0) else bif c0_Kind == 5 then some (c0_A == 0) else bif c0_Kind == 2 then bif s_l1In c0_A 1 3 then some (decide (c0_B < 2)) else some false else bif c0_Kind == 3 then bif s_l1In c0_A 1 7 then some (decide (c0_B < 2)) else some false else some false : Option Bool)) (by kernel_rfl) ?_
  unfold s_pzClue
  repeat (first | rfl | apply condS)
noncomputable def F_s_pzClue : Ins c_s_pzClue.ins → Bool := fun x => s_pzClue x.1.1 x.1.2.1 x.1.2.2
noncomputable def S_s_pzClue : FSpec := mkT c_s_pzClue.env.pre c_s_pzClue.ins c_s_pzClue.out c_s_pzClue.inj F_s_pzClue
theorem h_s_pzClue : Cert Try.prog 99 S_s_pzClue := FnCx.certT (c := c_s_pzClue) F_s_pzClue (tyOk _ _ _) (spOk ⟨h_s_l1In, fun _ _ _ => trivial, trivial⟩) (fun _ _ _ _ _ hs => noDr_ok) Try.func99 rfl rfl Try.ntmps99 (by kernel_rfl) rfl rfl (fun _ => rfl) trivial (fun x => .inl ⟨c_s_pzClue.start () x, fun _ => rfl⟩) (fun x hb => by
  obtain ⟨⟨c0_Kind, c0_A, c0_B⟩, _⟩ := x
  exact s_pzClue_e c0_Kind c0_A c0_B)
/-! spec.pzGood -/
noncomputable def c_s_pzGood : FnCx := { env := env 20 [(99, S_s_pzClue)] [], body := bodyOf Try.f107, res := [.tmp 2], ins := [.ro kPuzzle], out := [(kbool, true)], T := Bool, fin := fun r => r.1.1, inj := fun t => ((t, ()), ((), ())), pts := [([.inLoop [1, 1, 0, 1, 0, 0], .inBlock 0, .code [1, 1, 1]], Shape.mk [Bs.row kwClue 25 false] [(10, Ss.one (Cs.sl 0)), (11, Ss.one (Cs.sc kint)), (12, Ss.one (Cs.sc kint))] [Ss.one (Cs.any)])], fuel := 400, dr := noDr }
noncomputable def s_pzGood_t1 (g1 : List (Int × (Int × Int)) → Int → Int → Option (Bool)) (r0 : List (Int × (Int × Int))) (s11 : Int) (s12 : Int) : Option Bool :=
  bif decide (s12 < s11) then
    bif decide (0 ≤ s12) then
      bif decide (s12 < (↑(List.length r0) : Int)) then
        bif
            !s_pzClue (Prod.fst (rdk kwClue r0 s12))
                (Prod.fst (Prod.snd (rdk kwClue r0 s12)))
                (Prod.snd (Prod.snd (rdk kwClue r0 s12))) then
          some false
        else g1 r0 s11 (IntKind.wrap IntKind.i64 (s12 + 1))
      else none
    else none
  else some true
noncomputable def s_pzGood_t0 (g1 : List (Int × (Int × Int)) → Int → Int → Option (Bool)) (p0_Clues : List (Int × Int × Int)) : Option Bool :=
  bif decide ((↑(List.length p0_Clues) : Int) > 6) then some false else g1 p0_Clues (↑(List.length p0_Clues) : Int) 0
theorem s_pzGood_ts : Tails c_s_pzGood.pts c_s_pzGood.round :=
  ⟨fun s => by
    obtain ⟨⟨r0, _⟩, ⟨_, s11, s12, _⟩, ⟨_, _⟩⟩ := s
    refine Tail.eq (Y := fun g => s_pzGood_t1 (fun r0 s11 s12 => g.1 ((r0, ()), ((), s11, s12, ()), ((), ()))) r0 s11 s12) ?_ (fun g => by kernel_rfl)
    simp only [s_pzGood_t1]; repeat (first | exact Tail.const _ | exact Tail.here _ | exact Tail.there (Tail.here _) | exact Tail.there (Tail.there (Tail.here _)) | exact Tail.there (Tail.there (Tail.there (Tail.here _))) | exact Tail.there (Tail.there (Tail.there (Tail.there (Tail.here _)))) | exact Tail.there (Tail.there (Tail.there (Tail.there (Tail.there (Tail.here _))))) | apply Tail.cond | (apply Tail.bind; intro _)), trivial⟩
theorem s_pzGood_hs : ∀ x, Tail c_s_pzGood.pts (fun g => c_s_pzGood.start g x) := fun x => by
    obtain ⟨p0_Clues, _⟩ := x
    refine Tail.eq (Y := fun g => s_pzGood_t0 (fun r0 s11 s12 => g.1 ((r0, ()), ((), s11, s12, ()), ((), ()))) p0_Clues) ?_ (fun g => by kernel_rfl)
    simp only [s_pzGood_t0]; repeat (first | exact Tail.const _ | exact Tail.here _ | exact Tail.there (Tail.here _) | exact Tail.there (Tail.there (Tail.here _)) | exact Tail.there (Tail.there (Tail.there (Tail.here _))) | exact Tail.there (Tail.there (Tail.there (Tail.there (Tail.here _)))) | exact Tail.there (Tail.there (Tail.there (Tail.there (Tail.there (Tail.here _))))) | apply Tail.cond | (apply Tail.bind; intro _))
noncomputable def s_pzGood_L1 (r0 : List (Int × (Int × Int))) (s11 : Int) (s12 : Int) : Option Bool := c_s_pzGood.L.1 ((r0, ()), ((), s11, s12, ()), ((), ()))
theorem s_pzGood_u1 (r0 : List (Int × (Int × Int))) (s11 : Int) (s12 : Int) : s_pzGood_L1 r0 s11 s12 = s_pzGood_t1 s_pzGood_L1 r0 s11 s12 :=
  (congrArg (fun g => g.1 ((r0, ()), ((), s11, s12, ()), ((), ()))) (FnCx.L_eq s_pzGood_ts)).trans (by kernel_rfl)
noncomputable def s_pzGood (p0_Clues : List (Int × Int × Int)) : Option Bool := s_pzGood_t0 s_pzGood_L1 p0_Clues
theorem s_pzGood_e (p0_Clues : List (Int × Int × Int)) : c_s_pzGood.start c_s_pzGood.L (p0_Clues, ()) = s_pzGood p0_Clues := by kernel_rfl
-- NICE tot
noncomputable def s_pzGood_n (l : List (Int × Int × Int)) : Bool := bif decide ((l.length : Int) > 6) then false else bif l.any (fun c => !s_pzClue c.1 c.2.1 c.2.2) then false else true
theorem s_pzGood_ok (l : List (Int × Int × Int)) (hb : BdI c_s_pzGood.ins (l, ())) : s_pzGood l = some (s_pzGood_n l) := by
  have e := loop_any (L := fun i => s_pzGood_L1 l l.length (i : Int)) (l := l) (p := fun c => !s_pzClue c.1 c.2.1 c.2.2) (a := false) (b := true)
    (fun i h => by simp only [s_pzGood_u1 l l.length i, s_pzGood_t1, rdk_get (k := kClue) h, wrapS h hb.1.1]; simp [h]) (by simp [s_pzGood_u1 l l.length l.length, s_pzGood_t1])
  unfold s_pzGood s_pzGood_t0 s_pzGood_n
  cases decide ((l.length : Int) > 6)
  · exact e
  · rfl
noncomputable def F_s_pzGood : Ins c_s_pzGood.ins → Bool := fun x => s_pzGood_n x.1
noncomputable def S_s_pzGood : FSpec := mkT c_s_pzGood.env.pre c_s_pzGood.ins c_s_pzGood.out c_s_pzGood.inj F_s_pzGood
theorem h_s_pzGood : Cert Try.prog 107 S_s_pzGood := FnCx.certT (c := c_s_pzGood) F_s_pzGood (tyOk _ _ _) (spOk ⟨h_s_pzClue, fun _ _ _ => trivial, trivial⟩) (fun _ _ _ _ _ hs => noDr_ok) Try.func107 rfl rfl Try.ntmps107 (by kernel_rfl) rfl rfl (fun _ => rfl) s_pzGood_ts s_pzGood_hs (fun x hb => by
  obtain ⟨p0_Clues, _⟩ := x
  exact (s_pzGood_e p0_Clues).trans (s_pzGood_ok p0_Clues hb))
/-! spec.IsPuzzle -/
noncomputable def c_s_IsPuzzle : FnCx := { env := env 5 [(107, S_s_pzGood)] [], body := bodyOf Try.f24, res := [.tmp 2], ins := [.ro kPuzzle], out := [(kbool, true)], T := Bool, fin := fun r => r.1.1, inj := fun t => ((t, ()), ((), ())), pts := [], fuel := 400, dr := noDr }
noncomputable def s_IsPuzzle (p0_Clues : List (Int × Int × Int)) : Bool :=
  s_pzGood_n p0_Clues
theorem s_IsPuzzle_e (p0_Clues : List (Int × Int × Int)) : c_s_IsPuzzle.start c_s_IsPuzzle.L (p0_Clues, ()) = some (s_IsPuzzle p0_Clues) := by kernel_rfl
noncomputable def F_s_IsPuzzle : Ins c_s_IsPuzzle.ins → Bool := fun x => s_IsPuzzle x.1
noncomputable def S_s_IsPuzzle : FSpec := mkT c_s_IsPuzzle.env.pre c_s_IsPuzzle.ins c_s_IsPuzzle.out c_s_IsPuzzle.inj F_s_IsPuzzle
theorem h_s_IsPuzzle : Cert Try.prog 24 S_s_IsPuzzle := FnCx.certT (c := c_s_IsPuzzle) F_s_IsPuzzle (tyOk _ _ _) (spOk ⟨h_s_pzGood, fun _ _ _ => trivial, trivial⟩) (fun _ _ _ _ _ hs => noDr_ok) Try.func24 rfl rfl Try.ntmps24 (by kernel_rfl) rfl rfl (fun _ => rfl) trivial (fun x => .inl ⟨c_s_IsPuzzle.start () x, fun _ => rfl⟩) (fun x hb => by
  obtain ⟨p0_Clues, _⟩ := x
  exact s_IsPuzzle_e p0_Clues)
/-! impl.within -/
noncomputable def c_i_within : FnCx := { env := env 15 [] [], body := bodyOf Try.f100, res := [.tmp 6], ins := [.ro kint, .ro kint, .ro kint], out := [(kbool, true)], T := Bool, fin := fun r => r.1.1, inj := fun t => ((t, ()), ((), (), (), ())), pts := [], fuel := 400, dr := noDr }
noncomputable def i_within (n0 : Int) (low1 : Int) (high2 : Int) : Bool :=
  bif decide (low1 ≤ n0) then decide (n0 ≤ high2) else false
theorem i_within_e (n0 : Int) (low1 : Int) (high2 : Int) : c_i_within.start c_i_within.L (n0, low1, high2, ()) = some (i_within n0 low1 high2) := by
  refine Eq.trans (b := (bif decide (low1 ≤ n0) then some (decide (n0 ≤ high2)) else some false : Option Bool)) (by kernel_rfl) ?_
  unfold i_within
  repeat (first | rfl | apply condS)
noncomputable def F_i_within : Ins c_i_within.ins → Bool := fun x => i_within x.1 x.2.1 x.2.2.1
noncomputable def S_i_within : FSpec := mkT c_i_within.env.pre c_i_within.ins c_i_within.out c_i_within.inj F_i_within
theorem h_i_within : Cert Try.prog 100 S_i_within := FnCx.certT (c := c_i_within) F_i_within (tyOk _ _ _) (spOk trivial) (fun _ _ _ _ _ hs => noDr_ok) Try.func100 rfl rfl Try.ntmps100 (by kernel_rfl) rfl rfl (fun _ => rfl) trivial (fun x => .inl ⟨c_i_within.start () x, fun _ => rfl⟩) (fun x hb => by
  obtain ⟨n0, low1, high2, _⟩ := x
  exact i_within_e n0 low1 high2)
/-! impl.IsClue -/
noncomputable def c_i_IsClue : FnCx := { env := env 38 [(100, S_i_within)] [], body := bodyOf Try.f17, res := [.tmp 2], ins := [.ro kClue], out := [(kbool, true)], T := Bool, fin := fun r => r.1.1, inj := fun t => ((t, ()), ((), ())), pts := [], fuel := 400, dr := noDr }
noncomputable def i_IsClue (c0_Kind : Int) (c0_A : Int) (c0_B : Int) : Bool :=
  bif !i_within c0_Kind 0 5 then false
  else
    bif !i_within c0_B 0 60 then false
    else
      bif c0_Kind == 2 then bif i_within c0_A 1 3 then decide (c0_B ≤ 1) else false
      else bif c0_Kind == 3 then bif i_within c0_A 1 7 then decide (c0_B ≤ 1) else false else c0_A == 0
theorem i_IsClue_e (c0_Kind : Int) (c0_A : Int) (c0_B : Int) : c_i_IsClue.start c_i_IsClue.L ((c0_Kind, c0_A, c0_B), ()) = some (i_IsClue c0_Kind c0_A c0_B) := by
  refine Eq.trans (b := (bif !i_within c0_Kind 0 5 then some false else bif !i_within c0_B 0 60 then some false else bif c0_Kind == 2 then bif i_within c0_A 1 3 then some (decide (c0_B ≤ 1)) else some false else bif c0_Kind == 3 then bif i_within c0_A 1 7 then some (decide (c0_B ≤ 1)) else some false else some (c0_A == 0) : Option Bool)) (by kernel_rfl) ?_
  unfold i_IsClue
  repeat (first | rfl | apply condS)
noncomputable def F_i_IsClue : Ins c_i_IsClue.ins → Bool := fun x => i_IsClue x.1.1 x.1.2.1 x.1.2.2
noncomputable def S_i_IsClue : FSpec := mkT c_i_IsClue.env.pre c_i_IsClue.ins c_i_IsClue.out c_i_IsClue.inj F_i_IsClue
theorem h_i_IsClue : Cert Try.prog 17 S_i_IsClue := FnCx.certT (c := c_i_IsClue) F_i_IsClue (tyOk _ _ _) (spOk ⟨h_i_within, fun _ _ _ => trivial, trivial⟩) (fun _ _ _ _ _ hs => noDr_ok) Try.func17 rfl rfl Try.ntmps17 (by kernel_rfl) rfl rfl (fun _ => rfl) trivial (fun x => .inl ⟨c_i_IsClue.start () x, fun _ => rfl⟩) (fun x hb => by
  obtain ⟨⟨c0_Kind, c0_A, c0_B⟩, _⟩ := x
  exact i_IsClue_e c0_Kind c0_A c0_B)
/-! impl.IsPuzzle$1 -/
noncomputable def c_i_IsPuzzle_c1 : FnCx := { env := env 6 [(17, S_i_IsClue)] [], body := bodyOf Try.f110, res := [.tmp 2], ins := [.ro kClue], out := [(kbool, true)], T := Bool, fin := fun r => r.1.1, inj := fun t => ((t, ()), ((), ())), pts := [], fuel := 400, dr := noDr }
noncomputable def i_IsPuzzle_c1 (c0_Kind : Int) (c0_A : Int) (c0_B : Int) : Bool :=
  !i_IsClue c0_Kind c0_A c0_B
theorem i_IsPuzzle_c1_e (c0_Kind : Int) (c0_A : Int) (c0_B : Int) : c_i_IsPuzzle_c1.start c_i_IsPuzzle_c1.L ((c0_Kind, c0_A, c0_B), ()) = some (i_IsPuzzle_c1 c0_Kind c0_A c0_B) := by kernel_rfl
noncomputable def F_i_IsPuzzle_c1 : Ins c_i_IsPuzzle_c1.ins → Bool := fun x => i_IsPuzzle_c1 x.1.1 x.1.2.1 x.1.2.2
noncomputable def S_i_IsPuzzle_c1 : FSpec := mkT c_i_IsPuzzle_c1.env.pre c_i_IsPuzzle_c1.ins c_i_IsPuzzle_c1.out c_i_IsPuzzle_c1.inj F_i_IsPuzzle_c1
theorem h_i_IsPuzzle_c1 : Cert Try.prog 110 S_i_IsPuzzle_c1 := FnCx.certT (c := c_i_IsPuzzle_c1) F_i_IsPuzzle_c1 (tyOk _ _ _) (spOk ⟨h_i_IsClue, fun _ _ _ => trivial, trivial⟩) (fun _ _ _ _ _ hs => noDr_ok) Try.func110 rfl rfl Try.ntmps110 (by kernel_rfl) rfl rfl (fun _ => rfl) trivial (fun x => .inl ⟨c_i_IsPuzzle_c1.start () x, fun _ => rfl⟩) (fun x hb => by
  obtain ⟨⟨c0_Kind, c0_A, c0_B⟩, _⟩ := x
  exact i_IsPuzzle_c1_e c0_Kind c0_A c0_B)
/-! slices.IndexFunc[[]impl.Clue,impl.Clue] -/
noncomputable def c_slices_IndexFunc_Clue__i_IsPuzzle_c1 : FnCx := { env := env 19 [(110, S_i_IsPuzzle_c1)] [], body := bodyOf Try.f171, res := [.tmp 4], ins := [.ro kSClue, .fn 110 []], out := [(kint, true)], T := Int, fin := fun r => r.1.1, inj := fun t => ((t, ()), ((), (), ())), pts := [([.inLoop [1, 0, 1, 0, 0], .inBlock 0, .code [1, 1]], Shape.mk [Bs.row kwClue 25 false] [(0, Ss.one (Cs.sl 0)), (1, Ss.fn 110 []), (7, Ss.one (Cs.sc kint)), (8, Ss.one (Cs.sc kint))] [Ss.one (Cs.any), Ss.fn 110 []])], fuel := 400, dr := noDr }
noncomputable def slices_IndexFunc_Clue__i_IsPuzzle_c1_t1 (g1 : List (Int × (Int × Int)) → Int → Int → Option (Int)) (r0 : List (Int × (Int × Int))) (s7 : Int) (s8 : Int) : Option Int :=
  bif decide (s8 < s7) then
    bif decide (0 ≤ s8) then
      bif decide (s8 < (↑(List.length r0) : Int)) then
        bif
            i_IsPuzzle_c1 (Prod.fst (rdk kwClue r0 s8))
              (Prod.fst (Prod.snd (rdk kwClue r0 s8)))
              (Prod.snd (Prod.snd (rdk kwClue r0 s8))) then
          some s8
        else g1 r0 s7 (IntKind.wrap IntKind.i64 (s8 + 1))
      else none
    else none
  else some (-1)
noncomputable def slices_IndexFunc_Clue__i_IsPuzzle_c1_t0 (g1 : List (Int × (Int × Int)) → Int → Int → Option (Int)) (s0 : List (Int × Int × Int)) : Option Int :=
  g1 s0 (↑(List.length s0) : Int) 0
theorem slices_IndexFunc_Clue__i_IsPuzzle_c1_ts : Tails c_slices_IndexFunc_Clue__i_IsPuzzle_c1.pts c_slices_IndexFunc_Clue__i_IsPuzzle_c1.round :=
  ⟨fun s => by
    obtain ⟨⟨r0, _⟩, ⟨_, _, s7, s8, _⟩, ⟨_, _, _⟩⟩ := s
    refine Tail.eq (Y := fun g => slices_IndexFunc_Clue__i_IsPuzzle_c1_t1 (fun r0 s7 s8 => g.1 ((r0, ()), ((), (), s7, s8, ()), ((), (), ()))) r0 s7 s8) ?_ (fun g => by kernel_rfl)
    simp only [slices_IndexFunc_Clue__i_IsPuzzle_c1_t1]; repeat (first | exact Tail.const _ | exact Tail.here _ | exact Tail.there (Tail.here _) | exact Tail.there (Tail.there (Tail.here _)) | exact Tail.there (Tail.there (Tail.there (Tail.here _))) | exact Tail.there (Tail.there (Tail.there (Tail.there (Tail.here _)))) | exact Tail.there (Tail.there (Tail.there (Tail.there (Tail.there (Tail.here _))))) | apply Tail.cond | (apply Tail.bind; intro _)), trivial⟩
theorem slices_IndexFunc_Clue__i_IsPuzzle_c1_hs : ∀ x, Tail c_slices_IndexFunc_Clue__i_IsPuzzle_c1.pts (fun g => c_slices_IndexFunc_Clue__i_IsPuzzle_c1.start g x) := fun x => by
    obtain ⟨s0, _, _⟩ := x
    refine Tail.eq (Y := fun g => slices_IndexFunc_Clue__i_IsPuzzle_c1_t0 (fun r0 s7 s8 => g.1 ((r0, ()), ((), (), s7, s8, ()), ((), (), ()))) s0) ?_ (fun g => by kernel_rfl)
    simp only [slices_IndexFunc_Clue__i_IsPuzzle_c1_t0]; repeat (first | exact Tail.const _ | exact Tail.here _ | exact Tail.there (Tail.here _) | exact Tail.there (Tail.there (Tail.here _)) | exact Tail.there (Tail.there (Tail.there (Tail.here _))) | exact Tail.there (Tail.there (Tail.there (Tail.there (Tail.here _)))) | exact Tail.there (Tail.there (Tail.there (Tail.there (Tail.there (Tail.here _))))) | apply Tail.cond | (apply Tail.bind; intro _))
noncomputable def slices_IndexFunc_Clue__i_IsPuzzle_c1_L1 (r0 : List (Int × (Int × Int))) (s7 : Int) (s8 : Int) : Option Int := c_slices_IndexFunc_Clue__i_IsPuzzle_c1.L.1 ((r0, ()), ((), (), s7, s8, ()), ((), (), ()))
theorem slices_IndexFunc_Clue__i_IsPuzzle_c1_u1 (r0 : List (Int × (Int × Int))) (s7 : Int) (s8 : Int) : slices_IndexFunc_Clue__i_IsPuzzle_c1_L1 r0 s7 s8 = slices_IndexFunc_Clue__i_IsPuzzle_c1_t1 slices_IndexFunc_Clue__i_IsPuzzle_c1_L1 r0 s7 s8 :=
  (congrArg (fun g => g.1 ((r0, ()), ((), (), s7, s8, ()), ((), (), ()))) (FnCx.L_eq slices_IndexFunc_Clue__i_IsPuzzle_c1_ts)).trans (by kernel_rfl)
noncomputable def slices_IndexFunc_Clue__i_IsPuzzle_c1 (s0 : List (Int × Int × Int)) : Option Int := slices_IndexFunc_Clue__i_IsPuzzle_c1_t0 slices_IndexFunc_Clue__i_IsPuzzle_c1_L1 s0
theorem slices_IndexFunc_Clue__i_IsPuzzle_c1_e (s0 : List (Int × Int × Int)) : c_slices_IndexFunc_Clue__i_IsPuzzle_c1.start c_slices_IndexFunc_Clue__i_IsPuzzle_c1.L (s0, (), ()) = slices_IndexFunc_Clue__i_IsPuzzle_c1 s0 := by kernel_rfl
-- NICE tot
noncomputable def slices_IndexFunc_Clue__i_IsPuzzle_c1_n (l : List (Int × Int × Int)) : Int := idxF (fun x => i_IsPuzzle_c1 x.1 x.2.1 x.2.2) l 0
theorem slices_IndexFunc_Clue__i_IsPuzzle_c1_ok (l : List (Int × Int × Int)) (hb : BdI c_slices_IndexFunc_Clue__i_IsPuzzle_c1.ins (l, (), ())) : slices_IndexFunc_Clue__i_IsPuzzle_c1 l = some (slices_IndexFunc_Clue__i_IsPuzzle_c1_n l) :=
  have hm : l.length ≤ maxLen := hb.1.1
  loop_idx (L := fun i => slices_IndexFunc_Clue__i_IsPuzzle_c1_L1 l l.length (i : Int)) (l := l) (p := fun x => i_IsPuzzle_c1 x.1 x.2.1 x.2.2)
    (fun i h => by simp only [slices_IndexFunc_Clue__i_IsPuzzle_c1_u1 l l.length i, slices_IndexFunc_Clue__i_IsPuzzle_c1_t1, rdk_get (k := kClue) h, wrapS h hm]; simp [h]) (by simp [slices_IndexFunc_Clue__i_IsPuzzle_c1_u1 l l.length l.length, slices_IndexFunc_Clue__i_IsPuzzle_c1_t1])
noncomputable def F_slices_IndexFunc_Clue__i_IsPuzzle_c1 : Ins c_slices_IndexFunc_Clue__i_IsPuzzle_c1.ins → Int := fun x => slices_IndexFunc_Clue__i_IsPuzzle_c1_n x.1
noncomputable def S_slices_IndexFunc_Clue__i_IsPuzzle_c1 : FSpec := mkT c_slices_IndexFunc_Clue__i_IsPuzzle_c1.env.pre c_slices_IndexFunc_Clue__i_IsPuzzle_c1.ins c_slices_IndexFunc_Clue__i_IsPuzzle_c1.out c_slices_IndexFunc_Clue__i_IsPuzzle_c1.inj F_slices_IndexFunc_Clue__i_IsPuzzle_c1
theorem h_slices_IndexFunc_Clue__i_IsPuzzle_c1 : Cert Try.prog 171 S_slices_IndexFunc_Clue__i_IsPuzzle_c1 := FnCx.certT (c := c_slices_IndexFunc_Clue__i_IsPuzzle_c1) F_slices_IndexFunc_Clue__i_IsPuzzle_c1 (tyOk _ _ _) (spOk ⟨h_i_IsPuzzle_c1, fun _ _ _ => trivial, trivial⟩) (fun _ _ _ _ _ hs => noDr_ok) Try.func171 rfl rfl Try.ntmps171 (by kernel_rfl) rfl rfl (fun _ => rfl) slices_IndexFunc_Clue__i_IsPuzzle_c1_ts slices_IndexFunc_Clue__i_IsPuzzle_c1_hs (fun x hb => by
  obtain ⟨s0, _, _⟩ := x
  exact (slices_IndexFunc_Clue__i_IsPuzzle_c1_e s0).trans (slices_IndexFunc_Clue__i_IsPuzzle_c1_ok s0 hb))
/-! slices.ContainsFunc[[]impl.Clue,impl.Clue] -/
noncomputable def c_slices_ContainsFunc_Clue__i_IsPuzzle_c1 : FnCx := { env := env 9 [(171, S_slices_IndexFunc_Clue__i_IsPuzzle_c1)] [], body := bodyOf Try.f109, res := [.tmp 4], ins := [.ro kSClue, .fn 110 []], out := [(kbool, true)], T := Bool, fin := fun r => r.1.1, inj := fun t => ((t, ()), ((), (), ())), pts := [], fuel := 400, dr := noDr }
noncomputable def slices_ContainsFunc_Clue__i_IsPuzzle_c1 (s0 : List (Int × Int × Int)) : Bool :=
  decide (slices_IndexFunc_Clue__i_IsPuzzle_c1_n s0 ≥ 0)
theorem slices_ContainsFunc_Clue__i_IsPuzzle_c1_e (s0 : List (Int × Int × Int)) : c_slices_ContainsFunc_Clue__i_IsPuzzle_c1.start c_slices_ContainsFunc_Clue__i_IsPuzzle_c1.L (s0, (), ()) = some (slices_ContainsFunc_Clue__i_IsPuzzle_c1 s0) := by kernel_rfl
noncomputable def F_slices_ContainsFunc_Clue__i_IsPuzzle_c1 : Ins c_slices_ContainsFunc_Clue__i_IsPuzzle_c1.ins → Bool := fun x => slices_ContainsFunc_Clue__i_IsPuzzle_c1 x.1
noncomputable def S_slices_ContainsFunc_Clue__i_IsPuzzle_c1 : FSpec := mkT c_slices_ContainsFunc_Clue__i_IsPuzzle_c1.env.pre c_slices_ContainsFunc_Clue__i_IsPuzzle_c1.ins c_slices_ContainsFunc_Clue__i_IsPuzzle_c1.out c_slices_ContainsFunc_Clue__i_IsPuzzle_c1.inj F_slices_ContainsFunc_Clue__i_IsPuzzle_c1
theorem h_slices_ContainsFunc_Clue__i_IsPuzzle_c1 : Cert Try.prog 109 S_slices_ContainsFunc_Clue__i_IsPuzzle_c1 := FnCx.certT (c := c_slices_ContainsFunc_Clue__i_IsPuzzle_c1) F_slices_ContainsFunc_Clue__i_IsPuzzle_c1 (tyOk _ _ _) (spOk ⟨h_slices_IndexFunc_Clue__i_IsPuzzle_c1, fun _ _ _ => trivial, trivial⟩) (fun _ _ _ _ _ hs => noDr_ok) Try.func109 rfl rfl Try.ntmps109 (by kernel_rfl) rfl rfl (fun _ => rfl) trivial (fun x => .inl ⟨c_slices_ContainsFunc_Clue__i_IsPuzzle_c1.start () x, fun _ => rfl⟩) (fun x hb => by
  obtain ⟨s0, _, _⟩ := x
  exact slices_ContainsFunc_Clue__i_IsPuzzle_c1_e s0)
/-! impl.IsPuzzle -/
noncomputable def c_i_IsPuzzle : FnCx := { env := env 13 [(109, S_slices_ContainsFunc_Clue__i_IsPuzzle_c1)] [], body := bodyOf Try.f26, res := [.tmp 2], ins := [.ro kPuzzle], out := [(kbool, true)], T := Bool, fin := fun r => r.1.1, inj := fun t => ((t, ()), ((), ())), pts := [], fuel := 400, dr := noDr }
noncomputable def i_IsPuzzle (p0_Clues : List (Int × Int × Int)) : Bool :=
  bif decide ((↑(List.length p0_Clues) : Int) ≤ 6) then !slices_ContainsFunc_Clue__i_IsPuzzle_c1 p0_Clues else false
theorem i_IsPuzzle_e (p0_Clues : List (Int × Int × Int)) : c_i_IsPuzzle.start c_i_IsPuzzle.L (p0_Clues, ()) = some (i_IsPuzzle p0_Clues) := by
  refine Eq.trans (b := (bif decide ((↑(List.length p0_Clues) : Int) ≤ 6) then some !slices_ContainsFunc_Clue__i_IsPuzzle_c1 p0_Clues else some false : Option Bool)) (by kernel_rfl) ?_
  unfold i_IsPuzzle
  repeat (first | rfl | apply condS)
theorem IsClue_eq (a b c : Int) : i_IsClue a b c = s_pzClue a b c := by
  unfold i_IsClue s_pzClue i_within s_l1In
  have e : decide (c ≤ 1) = decide (c < 2) := by rw [decide_eq_decide]; omega
  rw [e]
  simp only [Bool.cond_eq_ite, ge_iff_le]
  grind
theorem IsPuzzle_eq (l : List (Int × Int × Int)) : i_IsPuzzle l = s_IsPuzzle l := by
  unfold i_IsPuzzle s_IsPuzzle s_pzGood_n slices_ContainsFunc_Clue__i_IsPuzzle_c1 slices_IndexFunc_Clue__i_IsPuzzle_c1_n
  rw [idxF_any]
  by_cases h : (l.length : Int) ≤ 6
  · have h' : ¬ ((l.length : Int) > 6) := by omega
    simp only [h, h', decide_true, decide_false, cond_true, cond_false, i_IsPuzzle_c1, IsClue_eq]
    cases l.any _ <;> rfl
  · have h' : ((l.length : Int) > 6) := by omega
    simp [h, h']
noncomputable def F_i_IsPuzzle : Ins c_i_IsPuzzle.ins → Bool := fun x => i_IsPuzzle x.1
noncomputable def S_i_IsPuzzle : FSpec := mkT c_i_IsPuzzle.env.pre c_i_IsPuzzle.ins c_i_IsPuzzle.out c_i_IsPuzzle.inj F_i_IsPuzzle
theorem h_i_IsPuzzle : Cert Try.prog 26 S_i_IsPuzzle := FnCx.certT (c := c_i_IsPuzzle) F_i_IsPuzzle (tyOk _ _ _) (spOk ⟨h_slices_ContainsFunc_Clue__i_IsPuzzle_c1, fun _ _ _ => trivial, trivial⟩) (fun _ _ _ _ _ hs => noDr_ok) Try.func26 rfl rfl Try.ntmps26 (by kernel_rfl) rfl rfl (fun _ => rfl) trivial (fun x => .inl ⟨c_i_IsPuzzle.start () x, fun _ => rfl⟩) (fun x hb => by
  obtain ⟨p0_Clues, _⟩ := x
  exact i_IsPuzzle_e p0_Clues)
/-! laws.eqClue -/
noncomputable def c_w_eqClue : FnCx := { env := env 20 [] [], body := bodyOf Try.f172, res := [.tmp 4], ins := [.ro kClue, .ro kClue], out := [(kbool, true)], T := Bool, fin := fun r => r.1.1, inj := fun t => ((t, ()), ((), (), ())), pts := [], fuel := 400, dr := noDr }
noncomputable def w_eqClue (a0_Kind : Int) (a0_A : Int) (a0_B : Int) (b1_Kind : Int) (b1_A : Int) (b1_B : Int) : Bool :=
  bif a0_Kind != b1_Kind then false else bif a0_A != b1_A then false else bif a0_B != b1_B then false else true
theorem w_eqClue_e (a0_Kind : Int) (a0_A : Int) (a0_B : Int) (b1_Kind : Int) (b1_A : Int) (b1_B : Int) : c_w_eqClue.start c_w_eqClue.L ((a0_Kind, a0_A, a0_B), (b1_Kind, b1_A, b1_B), ()) = some (w_eqClue a0_Kind a0_A a0_B b1_Kind b1_A b1_B) := by
  refine Eq.trans (b := (bif a0_Kind != b1_Kind then some false else bif a0_A != b1_A then some false else bif a0_B != b1_B then some false else some true : Option Bool)) (by kernel_rfl) ?_
  unfold w_eqClue
  repeat (first | rfl | apply condS)
noncomputable def F_w_eqClue : Ins c_w_eqClue.ins → Bool := fun x => w_eqClue x.1.1 x.1.2.1 x.1.2.2 x.2.1.1 x.2.1.2.1 x.2.1.2.2
noncomputable def S_w_eqClue : FSpec := mkT c_w_eqClue.env.pre c_w_eqClue.ins c_w_eqClue.out c_w_eqClue.inj F_w_eqClue
theorem h_w_eqClue : Cert Try.prog 172 S_w_eqClue := FnCx.certT (c := c_w_eqClue) F_w_eqClue (tyOk _ _ _) (spOk trivial) (fun _ _ _ _ _ hs => noDr_ok) Try.func172 rfl rfl Try.ntmps172 (by kernel_rfl) rfl rfl (fun _ => rfl) trivial (fun x => .inl ⟨c_w_eqClue.start () x, fun _ => rfl⟩) (fun x hb => by
  obtain ⟨⟨a0_Kind, a0_A, a0_B⟩, ⟨b1_Kind, b1_A, b1_B⟩, _⟩ := x
  exact w_eqClue_e a0_Kind a0_A a0_B b1_Kind b1_A b1_B)
/-! laws.eqClueS -/
noncomputable def c_w_eqClueS : FnCx := { env := env 27 [(172, S_w_eqClue)] [], body := bodyOf Try.f111, res := [.tmp 4], ins := [.ro kSClue, .ro kSClue], out := [(kbool, true)], T := Bool, fin := fun r => r.1.1, inj := fun t => ((t, ()), ((), (), ())), pts := [([.inLoop [1, 1, 0, 1, 0, 0], .inBlock 0, .code [1, 1, 1]], Shape.mk [Bs.row kwClue 25 false, Bs.row kwClue 25 false] [(0, Ss.one (Cs.sl 0)), (1, Ss.one (Cs.sl 1)), (5, Ss.one (Cs.sc kint))] [Ss.one (Cs.any), Ss.one (Cs.any)])], fuel := 400, dr := evDr (env 27 [(172, S_w_eqClue)] []) }
noncomputable def w_eqClueS_t1 (g1 : List (Int × (Int × Int)) → List (Int × (Int × Int)) → Int → Option (Bool)) (r0 : List (Int × (Int × Int))) (r1 : List (Int × (Int × Int))) (i5 : Int) : Option Bool :=
  bif decide (i5 < (↑(List.length r0) : Int)) then
    bif decide (0 ≤ i5) then
      bif decide (i5 < (↑(List.length r0) : Int)) then
        bif decide (0 ≤ i5) then
          bif decide (i5 < (↑(List.length r1) : Int)) then
            bif
                !w_eqClue (Prod.fst (rdk kwClue r0 i5))
                    (Prod.fst (Prod.snd (rdk kwClue r0 i5)))
                    (Prod.snd (Prod.snd (rdk kwClue r0 i5)))
                    (Prod.fst (rdk kwClue r1 i5))
                    (Prod.fst (Prod.snd (rdk kwClue r1 i5)))
                    (Prod.snd (Prod.snd (rdk kwClue r1 i5))) then
              some false
            else g1 r0 r1 (IntKind.wrap IntKind.i64 (i5 + 1))
          else none
        else none
      else none
    else none
  else some true
noncomputable def w_eqClueS_t0 (g1 : List (Int × (Int × Int)) → List (Int × (Int × Int)) → Int → Option (Bool)) (a0 : List (Int × Int × Int)) (b1 : List (Int × Int × Int)) : Option Bool :=
  bif (↑(List.length a0) : Int) != (↑(List.length b1) : Int) then some false else g1 a0 b1 0
theorem w_eqClueS_ts : Tails c_w_eqClueS.pts c_w_eqClueS.round :=
  ⟨fun s => by
    obtain ⟨⟨r0, r1, _⟩, ⟨_, _, i5, _⟩, ⟨_, _, _⟩⟩ := s
    refine Tail.eq (Y := fun g => w_eqClueS_t1 (fun r0 r1 i5 => g.1 ((r0, r1, ()), ((), (), i5, ()), ((), (), ()))) r0 r1 i5) ?_ (fun g => by kernel_rfl)
    simp only [w_eqClueS_t1]; repeat (first | exact Tail.const _ | exact Tail.here _ | exact Tail.there (Tail.here _) | exact Tail.there (Tail.there (Tail.here _)) | exact Tail.there (Tail.there (Tail.there (Tail.here _))) | exact Tail.there (Tail.there (Tail.there (Tail.there (Tail.here _)))) | exact Tail.there (Tail.there (Tail.there (Tail.there (Tail.there (Tail.here _))))) | apply Tail.cond | (apply Tail.bind; intro _)), trivial⟩
theorem w_eqClueS_hs : ∀ x, Tail c_w_eqClueS.pts (fun g => c_w_eqClueS.start g x) := fun x => by
    obtain ⟨a0, b1, _⟩ := x
    refine Tail.eq (Y := fun g => w_eqClueS_t0 (fun r0 r1 i5 => g.1 ((r0, r1, ()), ((), (), i5, ()), ((), (), ()))) a0 b1) ?_ (fun g => by kernel_rfl)
    simp only [w_eqClueS_t0]; repeat (first | exact Tail.const _ | exact Tail.here _ | exact Tail.there (Tail.here _) | exact Tail.there (Tail.there (Tail.here _)) | exact Tail.there (Tail.there (Tail.there (Tail.here _))) | exact Tail.there (Tail.there (Tail.there (Tail.there (Tail.here _)))) | exact Tail.there (Tail.there (Tail.there (Tail.there (Tail.there (Tail.here _))))) | apply Tail.cond | (apply Tail.bind; intro _))
noncomputable def w_eqClueS_L1 (r0 : List (Int × (Int × Int))) (r1 : List (Int × (Int × Int))) (i5 : Int) : Option Bool := c_w_eqClueS.L.1 ((r0, r1, ()), ((), (), i5, ()), ((), (), ()))
theorem w_eqClueS_u1 (r0 : List (Int × (Int × Int))) (r1 : List (Int × (Int × Int))) (i5 : Int) : w_eqClueS_L1 r0 r1 i5 = w_eqClueS_t1 w_eqClueS_L1 r0 r1 i5 :=
  (congrArg (fun g => g.1 ((r0, r1, ()), ((), (), i5, ()), ((), (), ()))) (FnCx.L_eq w_eqClueS_ts)).trans (by kernel_rfl)
noncomputable def w_eqClueS (a0 : List (Int × Int × Int)) (b1 : List (Int × Int × Int)) : Option Bool := w_eqClueS_t0 w_eqClueS_L1 a0 b1
theorem w_eqClueS_e (a0 : List (Int × Int × Int)) (b1 : List (Int × Int × Int)) : c_w_eqClueS.start c_w_eqClueS.L (a0, b1, ()) = w_eqClueS a0 b1 := by kernel_rfl
-- NICE tot
noncomputable def w_eqClueS_n (a b : List (Int × Int × Int)) : Bool := decide (a = b)
theorem w_eqClue_iff (a b : Int × Int × Int) : w_eqClue a.1 a.2.1 a.2.2 b.1 b.2.1 b.2.2 = decide (a = b) := by
  obtain ⟨a1, a2, a3⟩ := a
  obtain ⟨b1, b2, b3⟩ := b
  unfold w_eqClue
  by_cases h1 : a1 = b1 <;> by_cases h2 : a2 = b2 <;> by_cases h3 : a3 = b3 <;> simp [h1, h2, h3]
theorem w_eqClueS_ok (a b : List (Int × Int × Int)) (hb : BdI c_w_eqClueS.ins (a, b, ())) : w_eqClueS a b = some (w_eqClueS_n a b) := by
  unfold w_eqClueS w_eqClueS_t0 w_eqClueS_n
  by_cases hl : a.length = b.length
  · have e := loop_eq (L := fun i => w_eqClueS_L1 a b (i : Int)) hl (fun i h h' => by
        simp only [w_eqClueS_u1 a b i, w_eqClueS_t1, rdk_get (k := kClue) h, rdk_get (k := kClue) h', wrapS h hb.1.1, w_eqClue_iff]
        by_cases hx : a[i] = b[i] <;> simp [h, h', hx]) (by simp [w_eqClueS_u1 a b a.length, w_eqClueS_t1])
    simpa [hl] using e
  · have hab : a ≠ b := fun e => hl (by rw [e])
    have : ((a.length : Int) != (b.length : Int)) = true := by simp; omega
    rw [this]
    simp [hab]
noncomputable def F_w_eqClueS : Ins c_w_eqClueS.ins → Bool := fun x => w_eqClueS_n x.1 x.2.1
noncomputable def S_w_eqClueS : FSpec := mkT c_w_eqClueS.env.pre c_w_eqClueS.ins c_w_eqClueS.out c_w_eqClueS.inj F_w_eqClueS
theorem h_w_eqClueS : Cert Try.prog 111 S_w_eqClueS := FnCx.certT (c := c_w_eqClueS) F_w_eqClueS (tyOk _ _ _) (spOk ⟨h_w_eqClue, fun _ _ _ => trivial, trivial⟩) (fun _ _ _ _ _ hs => evDr_ok (tyOk _ _ _) hs follows) Try.func111 rfl rfl Try.ntmps111 (by kernel_rfl) rfl rfl (fun _ => rfl) w_eqClueS_ts w_eqClueS_hs (fun x hb => by
  obtain ⟨a0, b1, _⟩ := x
  exact (w_eqClueS_e a0 b1).trans (w_eqClueS_ok a0 b1 hb))
/-! laws.eqPuzzle -/
noncomputable def c_w_eqPuzzle : FnCx := { env := env 11 [(111, S_w_eqClueS)] [], body := bodyOf Try.f27, res := [.tmp 4], ins := [.ro kPuzzle, .ro kPuzzle], out := [(kbool, true)], T := Bool, fin := fun r => r.1.1, inj := fun t => ((t, ()), ((), (), ())), pts := [], fuel := 400, dr := noDr }
noncomputable def w_eqPuzzle (a0_Clues : List (Int × Int × Int)) (b1_Clues : List (Int × Int × Int)) : Bool :=
  bif !w_eqClueS_n a0_Clues b1_Clues then false else true
theorem w_eqPuzzle_e (a0_Clues : List (Int × Int × Int)) (b1_Clues : List (Int × Int × Int)) : c_w_eqPuzzle.start c_w_eqPuzzle.L (a0_Clues, b1_Clues, ()) = some (w_eqPuzzle a0_Clues b1_Clues) := by
  refine Eq.trans (b := (bif !w_eqClueS_n a0_Clues b1_Clues then some false else some true : Option Bool)) (by kernel_rfl) ?_
  unfold w_eqPuzzle
  repeat (first | rfl | apply condS)
theorem szClueS_le {l : List (Int × Int × Int)} (h : l.length ≤ maxLen) (hs : decide (w_szClueS l 1048576 < 0) = false) : l.length ≤ 1048576 := by
  rw [maxLen_eq] at h
  unfold w_szClueS at hs
  rw [wrap64 (by omega) (by omega)] at hs
  by_cases hh : (1048576 - (l.length : Int)) < 0
  · simp [hh] at hs
  · omega
theorem szPuzzle_le {y : List (Int × Int × Int)} (h : y.length ≤ maxLen) (hs : decide (w_szPuzzle y 1048576 < 0) = false) : y.length ≤ 1048576 :=
  szClueS_le (l := y) h (by
      unfold w_szPuzzle at hs
      cases h : decide (w_szClueS y 1048576 < 0)
      · rfl
      · rw [h] at hs; simp at hs)
theorem toPuzzle_eq {y : List (Int × Int × Int)} (hl : y.length ≤ 1048576) : w_toPuzzle y = some y := by
  have : decide (y.length ≤ 4294967296) = true := decide_eq_true (by omega)
  simp [w_toPuzzle, w_toClueS_n, this]
theorem eqPuzzle_eq (a b : List (Int × Int × Int)) : w_eqPuzzle a b = decide (a = b) := by
  unfold w_eqPuzzle w_eqClueS_n
  cases decide (a = b) <;> rfl
noncomputable def F_w_eqPuzzle : Ins c_w_eqPuzzle.ins → Bool := fun x => w_eqPuzzle x.1 x.2.1
noncomputable def S_w_eqPuzzle : FSpec := mkT c_w_eqPuzzle.env.pre c_w_eqPuzzle.ins c_w_eqPuzzle.out c_w_eqPuzzle.inj F_w_eqPuzzle
theorem h_w_eqPuzzle : Cert Try.prog 27 S_w_eqPuzzle := FnCx.certT (c := c_w_eqPuzzle) F_w_eqPuzzle (tyOk _ _ _) (spOk ⟨h_w_eqClueS, fun _ _ _ => trivial, trivial⟩) (fun _ _ _ _ _ hs => noDr_ok) Try.func27 rfl rfl Try.ntmps27 (by kernel_rfl) rfl rfl (fun _ => rfl) trivial (fun x => .inl ⟨c_w_eqPuzzle.start () x, fun _ => rfl⟩) (fun x hb => by
  obtain ⟨a0_Clues, b1_Clues, _⟩ := x
  exact w_eqPuzzle_e a0_Clues b1_Clues)
/-! laws.FnExactIsPuzzle -/
noncomputable def c_w_FnExactIsPuzzle : FnCx := { env := env 27 [(23, S_w_szPuzzle), (25, S_w_toPuzzle), (24, S_s_IsPuzzle), (26, S_i_IsPuzzle), (27, S_w_eqPuzzle)] [], body := bodyOf Try.f5, res := [.tmp 2], ins := [.ro kwPuzzle], out := [(kbool, true)], T := Bool, fin := fun r => r.1.1, inj := fun t => ((t, ()), ((), ())), pts := [], fuel := 400, dr := evDr (env 27 [(23, S_w_szPuzzle), (25, S_w_toPuzzle), (24, S_s_IsPuzzle), (26, S_i_IsPuzzle), (27, S_w_eqPuzzle)] []) }
noncomputable def w_FnExactIsPuzzle (aP0_Clues : List (Int × Int × Int)) : Option Bool :=
  bif decide (w_szPuzzle aP0_Clues 1048576 < 0) then some true
  else
    Option.bind (w_toPuzzle aP0_Clues) fun r =>
      Option.bind (w_toPuzzle aP0_Clues) fun r_1 =>
        bif !i_IsPuzzle r_1 == s_IsPuzzle r then some false else Option.bind (w_toPuzzle aP0_Clues) fun r => bif !w_eqPuzzle r_1 r then some false else some true
theorem w_FnExactIsPuzzle_e (aP0_Clues : List (Int × Int × Int)) : c_w_FnExactIsPuzzle.start c_w_FnExactIsPuzzle.L (aP0_Clues, ()) = w_FnExactIsPuzzle aP0_Clues := by kernel_rfl
noncomputable def F_w_FnExactIsPuzzle : Ins c_w_FnExactIsPuzzle.ins → Option Bool := fun x => w_FnExactIsPuzzle x.1
noncomputable def S_w_FnExactIsPuzzle : FSpec := mkF c_w_FnExactIsPuzzle.env.pre c_w_FnExactIsPuzzle.ins c_w_FnExactIsPuzzle.out c_w_FnExactIsPuzzle.inj F_w_FnExactIsPuzzle
theorem h_w_FnExactIsPuzzle : Cert Try.prog 5 S_w_FnExactIsPuzzle := FnCx.certF (c := c_w_FnExactIsPuzzle) F_w_FnExactIsPuzzle (tyOk _ _ _) (spOk ⟨h_w_szPuzzle, fun _ _ _ => trivial, ⟨h_w_toPuzzle, fun _ _ _ => trivial, ⟨h_s_IsPuzzle, fun _ _ _ => trivial, ⟨h_i_IsPuzzle, fun _ _ _ => trivial, ⟨h_w_eqPuzzle, fun _ _ _ => trivial, trivial⟩⟩⟩⟩⟩) (fun _ _ _ _ _ hs => evDr_ok (tyOk _ _ _) hs follows) Try.func5 rfl rfl Try.ntmps5 (by kernel_rfl) rfl rfl (fun _ => rfl) trivial (fun x => .inl ⟨c_w_FnExactIsPuzzle.start () x, fun _ => rfl⟩) (fun x t hb ht => by
  obtain ⟨aP0_Clues, _⟩ := x
  exact (w_FnExactIsPuzzle_e aP0_Clues).trans ht)
end Go.Proofs.Ytinmfblemgkboaa.V
