/- Functions of the program, as plain functions. No condition. -/
import Derived.Test.YtlffgllmjjkfdaaDoorTyI
set_option linter.unusedVariables false
set_option linter.unusedSimpArgs false
set_option maxRecDepth 100000
namespace Go.Proofs.YtlffgllmjjkfdaaDoor.V
open Go Go.Ev Go.Proofs
/-! laws.szClueS -/
noncomputable def c_w_szClueS : FnCx := { env := env 12 [] [], body := bodyOf Tryd.f28, res := [.tmp 4], ins := [.ro kSwClue, .ro kint], out := [(kint, true)], T := Int, fin := fun r => r.1.1, inj := fun t => ((t, ()), ((), (), ())), pts := [], fuel := 400, dr := noDr }
noncomputable def w_szClueS (a0 : List (Int × Int × Int)) (left1 : Int) : Int :=
  bif decide (IntKind.wrap IntKind.i64 (left1 - (↑(List.length a0) : Int)) < 0) then -1 else IntKind.wrap IntKind.i64 (left1 - (↑(List.length a0) : Int))
theorem w_szClueS_e (a0 : List (Int × Int × Int)) (left1 : Int) : c_w_szClueS.start c_w_szClueS.L (a0, left1, ()) = some (w_szClueS a0 left1) := by
  refine Eq.trans (b := (bif decide (IntKind.wrap IntKind.i64 (left1 - (↑(List.length a0) : Int)) < 0) then some (-1) else some (IntKind.wrap IntKind.i64 (left1 - (↑(List.length a0) : Int))) : Option Int)) (by kernel_rfl) ?_
  unfold w_szClueS
  repeat (first | rfl | apply condS)
noncomputable def F_w_szClueS : Ins c_w_szClueS.ins → Int := fun x => w_szClueS x.1 x.2.1
noncomputable def S_w_szClueS : FSpec := mkT c_w_szClueS.env.pre c_w_szClueS.ins c_w_szClueS.out c_w_szClueS.inj F_w_szClueS
theorem h_w_szClueS : Cert Tryd.prog 28 S_w_szClueS := FnCx.certT (c := c_w_szClueS) F_w_szClueS (tyOk _ _ _) (spOk trivial) (fun _ _ _ _ _ hs => noDr_ok) Tryd.func28 rfl rfl Tryd.ntmps28 (by kernel_rfl) rfl rfl (fun _ => rfl) trivial (fun x => .inl ⟨c_w_szClueS.start () x, fun _ => rfl⟩) (fun x hb => by
  obtain ⟨a0, left1, _⟩ := x
  exact w_szClueS_e a0 left1)
/-! laws.szPuzzle -/
noncomputable def c_w_szPuzzle : FnCx := { env := env 12 [(28, S_w_szClueS)] [], body := bodyOf Tryd.f11, res := [.tmp 4], ins := [.ro kwPuzzle, .ro kint], out := [(kint, true)], T := Int, fin := fun r => r.1.1, inj := fun t => ((t, ()), ((), (), ())), pts := [], fuel := 400, dr := noDr }
noncomputable def w_szPuzzle (a0_Clues : List (Int × Int × Int)) (left1 : Int) : Int :=
  bif decide (w_szClueS a0_Clues left1 < 0) then -1 else w_szClueS a0_Clues left1
theorem w_szPuzzle_e (a0_Clues : List (Int × Int × Int)) (left1 : Int) : c_w_szPuzzle.start c_w_szPuzzle.L (a0_Clues, left1, ()) = some (w_szPuzzle a0_Clues left1) := by
  refine Eq.trans (b := (bif decide (w_szClueS a0_Clues left1 < 0) then some (-1) else some (w_szClueS a0_Clues left1) : Option Int)) (by kernel_rfl) ?_
  unfold w_szPuzzle
  repeat (first | rfl | apply condS)
noncomputable def F_w_szPuzzle : Ins c_w_szPuzzle.ins → Int := fun x => w_szPuzzle x.1 x.2.1
noncomputable def S_w_szPuzzle : FSpec := mkT c_w_szPuzzle.env.pre c_w_szPuzzle.ins c_w_szPuzzle.out c_w_szPuzzle.inj F_w_szPuzzle
theorem h_w_szPuzzle : Cert Tryd.prog 11 S_w_szPuzzle := FnCx.certT (c := c_w_szPuzzle) F_w_szPuzzle (tyOk _ _ _) (spOk ⟨h_w_szClueS, fun _ _ h => h, trivial⟩) (fun _ _ _ _ _ hs => noDr_ok) Tryd.func11 rfl rfl Tryd.ntmps11 (by kernel_rfl) rfl rfl (fun _ => rfl) trivial (fun x => .inl ⟨c_w_szPuzzle.start () x, fun _ => rfl⟩) (fun x hb => by
  obtain ⟨a0_Clues, left1, _⟩ := x
  exact w_szPuzzle_e a0_Clues left1)
/-! laws.toClue -/
noncomputable def c_w_toClue : FnCx := { env := env 14 [] [], body := bodyOf Tryd.f51, res := [.cell 2 54], ins := [.ro kwClue], out := [(kClue, true)], T := (Int × Int × Int), fin := fun r => r.1.1, inj := fun t => ((t, ()), ((), ())), pts := [], fuel := 400, dr := noDr }
noncomputable def w_toClue (a0_Kind : Int) (a0_A : Int) (a0_B : Int) : (Int × Int × Int) :=
  (a0_Kind, a0_A, a0_B)
theorem w_toClue_e (a0_Kind : Int) (a0_A : Int) (a0_B : Int) : c_w_toClue.start c_w_toClue.L ((a0_Kind, a0_A, a0_B), ()) = some (w_toClue a0_Kind a0_A a0_B) := by kernel_rfl
noncomputable def F_w_toClue : Ins c_w_toClue.ins → (Int × Int × Int) := fun x => w_toClue x.1.1 x.1.2.1 x.1.2.2
noncomputable def S_w_toClue : FSpec := mkT c_w_toClue.env.pre c_w_toClue.ins c_w_toClue.out c_w_toClue.inj F_w_toClue
theorem h_w_toClue : Cert Tryd.prog 51 S_w_toClue := FnCx.certT (c := c_w_toClue) F_w_toClue (tyOk _ _ _) (spOk trivial) (fun _ _ _ _ _ hs => noDr_ok) Tryd.func51 rfl rfl Tryd.ntmps51 (by kernel_rfl) rfl rfl (fun _ => rfl) trivial (fun x => .inl ⟨c_w_toClue.start () x, fun _ => rfl⟩) (fun x hb => by
  obtain ⟨⟨a0_Kind, a0_A, a0_B⟩, _⟩ := x
  exact w_toClue_e a0_Kind a0_A a0_B)
/-! laws.toClueS -/
noncomputable def c_w_toClueS : FnCx := { env := env 23 [(51, S_w_toClue)] [], body := bodyOf Tryd.f31, res := [.tmp 2], ins := [.ro kSwClue], out := [(kSClue, true)], T := List (Int × Int × Int), fin := fun r => r.1.1, inj := fun t => ((t, ()), ((), ())), pts := [([.inLoop [1, 1, 0, 1, 0, 0], .inBlock 0, .code [1, 1, 1]], Shape.mk [Bs.row kwClue 69 false, Bs.row kwClue 54 true] [(0, Ss.one (Cs.sl 0)), (3, Ss.one (Cs.sl 1)), (4, Ss.one (Cs.sc kint))] [Ss.one (Cs.any)])], fuel := 400, dr := noDr }
noncomputable def w_toClueS_t1 (g1 : List (Int × (Int × Int)) → List (Int × (Int × Int)) → Int → Option (List (Int × Int × Int))) (r0 : List (Int × (Int × Int))) (r1 : List (Int × (Int × Int))) (i4 : Int) : Option (List (Int × Int × Int)) :=
  bif decide (i4 < (↑(List.length r0) : Int)) then
    bif decide (0 ≤ i4) then
      bif decide (i4 < (↑(List.length r0) : Int)) then
        bif decide (0 ≤ i4) then
          bif decide (i4 < (↑(List.length r1) : Int)) then
            g1 r0
              (List.set r1 (Int.toNat i4)
                (Prod.fst (rdk kwClue r0 i4),
                  Prod.fst (Prod.snd (rdk kwClue r0 i4)),
                  Prod.snd (Prod.snd (rdk kwClue r0 i4))))
              (IntKind.wrap IntKind.i64 (i4 + 1))
          else none
        else none
      else none
    else none
  else some r1
noncomputable def w_toClueS_t0 (g1 : List (Int × (Int × Int)) → List (Int × (Int × Int)) → Int → Option (List (Int × Int × Int))) (a0 : List (Int × Int × Int)) : Option (List (Int × Int × Int)) :=
  bif (↑(List.length a0) : Int) == (↑(List.length a0) : Int) then
    bif decide ((↑(List.length a0) : Int) ≤ (↑4294967296 : Int)) then g1 a0 (List.replicate (Int.toNat (↑(List.length a0) : Int)) (Kd.zero kClue)) 0 else none
  else none
theorem w_toClueS_ts : Tails c_w_toClueS.pts c_w_toClueS.round :=
  ⟨fun s => by
    obtain ⟨⟨r0, r1, _⟩, ⟨_, _, i4, _⟩, ⟨_, _⟩⟩ := s
    refine Tail.eq (Y := fun g => w_toClueS_t1 (fun r0 r1 i4 => g.1 ((r0, r1, ()), ((), (), i4, ()), ((), ()))) r0 r1 i4) ?_ (fun g => by kernel_rfl)
    simp only [w_toClueS_t1]; repeat (first | exact Tail.const _ | exact Tail.here _ | exact Tail.there (Tail.here _) | exact Tail.there (Tail.there (Tail.here _)) | exact Tail.there (Tail.there (Tail.there (Tail.here _))) | exact Tail.there (Tail.there (Tail.there (Tail.there (Tail.here _)))) | exact Tail.there (Tail.there (Tail.there (Tail.there (Tail.there (Tail.here _))))) | apply Tail.cond | (apply Tail.bind; intro _)), trivial⟩
theorem w_toClueS_hs : ∀ x, Tail c_w_toClueS.pts (fun g => c_w_toClueS.start g x) := fun x => by
    obtain ⟨a0, _⟩ := x
    refine Tail.eq (Y := fun g => w_toClueS_t0 (fun r0 r1 i4 => g.1 ((r0, r1, ()), ((), (), i4, ()), ((), ()))) a0) ?_ (fun g => by kernel_rfl)
    simp only [w_toClueS_t0]; repeat (first | exact Tail.const _ | exact Tail.here _ | exact Tail.there (Tail.here _) | exact Tail.there (Tail.there (Tail.here _)) | exact Tail.there (Tail.there (Tail.there (Tail.here _))) | exact Tail.there (Tail.there (Tail.there (Tail.there (Tail.here _)))) | exact Tail.there (Tail.there (Tail.there (Tail.there (Tail.there (Tail.here _))))) | apply Tail.cond | (apply Tail.bind; intro _))
noncomputable def w_toClueS_L1 (r0 : List (Int × (Int × Int))) (r1 : List (Int × (Int × Int))) (i4 : Int) : Option (List (Int × Int × Int)) := c_w_toClueS.L.1 ((r0, r1, ()), ((), (), i4, ()), ((), ()))
theorem w_toClueS_u1 (r0 : List (Int × (Int × Int))) (r1 : List (Int × (Int × Int))) (i4 : Int) : w_toClueS_L1 r0 r1 i4 = w_toClueS_t1 w_toClueS_L1 r0 r1 i4 :=
  (congrArg (fun g => g.1 ((r0, r1, ()), ((), (), i4, ()), ((), ()))) (FnCx.L_eq w_toClueS_ts)).trans (by kernel_rfl)
noncomputable def w_toClueS (a0 : List (Int × Int × Int)) : Option (List (Int × Int × Int)) := w_toClueS_t0 w_toClueS_L1 a0
theorem w_toClueS_e (a0 : List (Int × Int × Int)) : c_w_toClueS.start c_w_toClueS.L (a0, ()) = w_toClueS a0 := by kernel_rfl
-- NICE opt
noncomputable def w_toClueS_n (a0 : List (Int × Int × Int)) : Option (List (Int × Int × Int)) := bif decide (a0.length ≤ 4294967296) then some a0 else none
theorem w_toClueS_ok (a0 : List (Int × Int × Int)) (hb : BdI c_w_toClueS.ins (a0, ())) (t : List (Int × Int × Int)) (ht : w_toClueS_n a0 = some t) : w_toClueS a0 = some t := by
  unfold w_toClueS_n at ht
  cases h : decide (a0.length ≤ 4294967296)
  · rw [h] at ht; cases ht
  · rw [h] at ht; cases ht
    have h := of_decide_eq_true h
    have e := loop_set (L := fun i r => w_toClueS_L1 a0 r (i : Int)) (l := a0) (f := id) (e := id)
      (fun i h r hr => by
        simp only [w_toClueS_u1 a0 r i, w_toClueS_t1, rdk_get (k := kClue) h, wrapS h hb.1.1, Int.toNat_natCast]
        simp [h, hr])
      (fun r => by simp [w_toClueS_u1 a0 r a0.length, w_toClueS_t1]) (List.replicate a0.length (Kd.zero kClue)) (by simp)
    have h' : ((a0.length : Int) ≤ 4294967296) := by omega
    simp [w_toClueS, w_toClueS_t0, h']
    simpa using e
noncomputable def F_w_toClueS : Ins c_w_toClueS.ins → Option (List (Int × Int × Int)) := fun x => w_toClueS_n x.1
noncomputable def S_w_toClueS : FSpec := mkF c_w_toClueS.env.pre c_w_toClueS.ins c_w_toClueS.out c_w_toClueS.inj F_w_toClueS
theorem h_w_toClueS : Cert Tryd.prog 31 S_w_toClueS := FnCx.certF (c := c_w_toClueS) F_w_toClueS (tyOk _ _ _) (spOk ⟨h_w_toClue, fun _ _ h => h, trivial⟩) (fun _ _ _ _ _ hs => noDr_ok) Tryd.func31 rfl rfl Tryd.ntmps31 (by kernel_rfl) rfl rfl (fun _ => rfl) w_toClueS_ts w_toClueS_hs (fun x t hb ht => by
  obtain ⟨a0, _⟩ := x
  exact (w_toClueS_e a0).trans (w_toClueS_ok a0 hb t ht))
/-! laws.toPuzzle -/
noncomputable def c_w_toPuzzle : FnCx := { env := env 9 [(31, S_w_toClueS)] [], body := bodyOf Tryd.f13, res := [.cell 2 35], ins := [.ro kwPuzzle], out := [(kPuzzle, true)], T := List (Int × Int × Int), fin := fun r => r.1.1, inj := fun t => ((t, ()), ((), ())), pts := [], fuel := 400, dr := noDr }
noncomputable def w_toPuzzle (a0_Clues : List (Int × Int × Int)) : Option (List (Int × Int × Int)) :=
  Option.bind (w_toClueS_n a0_Clues) fun r => some r
theorem w_toPuzzle_e (a0_Clues : List (Int × Int × Int)) : c_w_toPuzzle.start c_w_toPuzzle.L (a0_Clues, ()) = w_toPuzzle a0_Clues := by kernel_rfl
noncomputable def F_w_toPuzzle : Ins c_w_toPuzzle.ins → Option (List (Int × Int × Int)) := fun x => w_toPuzzle x.1
noncomputable def S_w_toPuzzle : FSpec := mkF c_w_toPuzzle.env.pre c_w_toPuzzle.ins c_w_toPuzzle.out c_w_toPuzzle.inj F_w_toPuzzle
theorem h_w_toPuzzle : Cert Tryd.prog 13 S_w_toPuzzle := FnCx.certF (c := c_w_toPuzzle) F_w_toPuzzle (tyOk _ _ _) (spOk ⟨h_w_toClueS, fun _ _ h => h, trivial⟩) (fun _ _ _ _ _ hs => noDr_ok) Tryd.func13 rfl rfl Tryd.ntmps13 (by kernel_rfl) rfl rfl (fun _ => rfl) trivial (fun x => .inl ⟨c_w_toPuzzle.start () x, fun _ => rfl⟩) (fun x t hb ht => by
  obtain ⟨a0_Clues, _⟩ := x
  exact (w_toPuzzle_e a0_Clues).trans ht)
/-! spec.l1In -/
noncomputable def c_s_l1In : FnCx := { env := env 15 [] [], body := bodyOf Tryd.f42, res := [.tmp 6], ins := [.ro kint, .ro kint, .ro kint], out := [(kbool, true)], T := Bool, fin := fun r => r.1.1, inj := fun t => ((t, ()), ((), (), (), ())), pts := [], fuel := 400, dr := noDr }
noncomputable def s_l1In (n0 : Int) (lo1 : Int) (hi2 : Int) : Bool :=
  bif decide (n0 ≥ lo1) then decide (n0 ≤ hi2) else false
theorem s_l1In_e (n0 : Int) (lo1 : Int) (hi2 : Int) : c_s_l1In.start c_s_l1In.L (n0, lo1, hi2, ()) = some (s_l1In n0 lo1 hi2) := by
  refine Eq.trans (b := (bif decide (n0 ≥ lo1) then some (decide (n0 ≤ hi2)) else some false : Option Bool)) (by kernel_rfl) ?_
  unfold s_l1In
  repeat (first | rfl | apply condS)
noncomputable def F_s_l1In : Ins c_s_l1In.ins → Bool := fun x => s_l1In x.1 x.2.1 x.2.2.1
noncomputable def S_s_l1In : FSpec := mkT c_s_l1In.env.pre c_s_l1In.ins c_s_l1In.out c_s_l1In.inj F_s_l1In
theorem h_s_l1In : Cert Tryd.prog 42 S_s_l1In := FnCx.certT (c := c_s_l1In) F_s_l1In (tyOk _ _ _) (spOk trivial) (fun _ _ _ _ _ hs => noDr_ok) Tryd.func42 rfl rfl Tryd.ntmps42 (by kernel_rfl) rfl rfl (fun _ => rfl) trivial (fun x => .inl ⟨c_s_l1In.start () x, fun _ => rfl⟩) (fun x hb => by
  obtain ⟨n0, lo1, hi2, _⟩ := x
  exact s_l1In_e n0 lo1 hi2)
/-! spec.pzClue -/
noncomputable def c_s_pzClue : FnCx := { env := env 37 [(42, S_s_l1In)] [], body := bodyOf Tryd.f50, res := [.tmp 2], ins := [.ro kClue], out := [(kbool, true)], T := Bool, fin := fun r => r.1.1, inj := fun t => ((t, ()), ((), ())), pts := [], fuel := 400, dr := noDr }
noncomputable def s_pzClue (c0_Kind : Int) (c0_A : Int) (c0_B : Int) : Bool :=
  bif !s_l1In c0_B 0 60 then false
  else
    bif c0_Kind == 0 then c0_A == 0
    else
      bif c0_Kind == 1 then c0_A == 0
      else
        bif c0_Kind == 4 then c0_A == 0
        else
          bif c0_Kind == 5 then c0_A == 0
          else
            bif c0_Kind == 2 then bif s_l1In c0_A 1 3 then decide (c0_B < 2) else false
            else bif c0_Kind == 3 then bif s_l1In c0_A 1 7 then decide (c0_B < 2) else false else false
theorem s_pzClue_e (c0_Kind : Int) (c0_A : Int) (c0_B : Int) : c_s_pzClue.start c_s_pzClue.L ((c0_Kind, c0_A, c0_B), ()) = some (s_pzClue c0_Kind c0_A c0_B) := by
  refine Eq.trans (b := (bif !s_l1In c0_B 0 60 then some false else bif c0_Kind == 0 then some (c0_A == 0) else bif c0_Kind == 1 then some (c0_A == 0) else bif c0_Kind == 4 then some (c0_A == 0) else bif c0_Kind == 5 then some (c0_A == 0) else bif c0_Kind == 2 then bif s_l1In c0_A 1 3 then some (decide (c0_B < 2)) else some false else bif c0_Kind == 3 then bif s_l1In c0_A 1 7 then some (decide (c0_B < 2)) else some false else some false : Option Bool)) (by kernel_rfl) ?_
  unfold s_pzClue
  repeat (first | rfl | apply condS)
noncomputable def F_s_pzClue : Ins c_s_pzClue.ins → Bool := fun x => s_pzClue x.1.1 x.1.2.1 x.1.2.2
noncomputable def S_s_pzClue : FSpec := mkT c_s_pzClue.env.pre c_s_pzClue.ins c_s_pzClue.out c_s_pzClue.inj F_s_pzClue
theorem h_s_pzClue : Cert Tryd.prog 50 S_s_pzClue := FnCx.certT (c := c_s_pzClue) F_s_pzClue (tyOk _ _ _) (spOk ⟨h_s_l1In, fun _ _ h => h, trivial⟩) (fun _ _ _ _ _ hs => noDr_ok) Tryd.func50 rfl rfl Tryd.ntmps50 (by kernel_rfl) rfl rfl (fun _ => rfl) trivial (fun x => .inl ⟨c_s_pzClue.start () x, fun _ => rfl⟩) (fun x hb => by
  obtain ⟨⟨c0_Kind, c0_A, c0_B⟩, _⟩ := x
  exact s_pzClue_e c0_Kind c0_A c0_B)
/-! spec.pzGood -/
noncomputable def c_s_pzGood : FnCx := { env := env 20 [(50, S_s_pzClue)] [], body := bodyOf Tryd.f29, res := [.tmp 2], ins := [.ro kPuzzle], out := [(kbool, true)], T := Bool, fin := fun r => r.1.1, inj := fun t => ((t, ()), ((), ())), pts := [([.inLoop [1, 1, 0, 1, 0, 0], .inBlock 0, .code [1, 1, 1]], Shape.mk [Bs.row kwClue 54 false] [(10, Ss.one (Cs.sl 0)), (11, Ss.one (Cs.sc kint)), (12, Ss.one (Cs.sc kint))] [Ss.one (Cs.any)])], fuel := 400, dr := noDr }
noncomputable def s_pzGood_t1 (g1 : List (Int × (Int × Int)) → Int → Int → Option (Bool)) (r0 : List (Int × (Int × Int))) (s11 : Int) (s12 : Int) : Option Bool :=
  bif decide (s12 < s11) then
    bif decide (0 ≤ s12) then
      bif decide (s12 < (↑(List.length r0) : Int)) then
        bif
            !s_pzClue (Prod.fst (rdk kwClue r0 s12))
                (Prod.fst (Prod.snd (rdk kwClue r0 s12)))
                (Prod.snd (Prod.snd (rdk kwClue r0 s12))) then
          some false
        else g1 r0 s11 (IntKind.wrap IntKind.i64 (s12 + 1))
      else none
    else none
  else some true
noncomputable def s_pzGood_t0 (g1 : List (Int × (Int × Int)) → Int → Int → Option (Bool)) (p0_Clues : List (Int × Int × Int)) : Option Bool :=
  bif decide ((↑(List.length p0_Clues) : Int) > 6) then some false else g1 p0_Clues (↑(List.length p0_Clues) : Int) 0
theorem s_pzGood_ts : Tails c_s_pzGood.pts c_s_pzGood.round :=
  ⟨fun s => by
    obtain ⟨⟨r0, _⟩, ⟨_, s11, s12, _⟩, ⟨_, _⟩⟩ := s
    refine Tail.eq (Y := fun g => s_pzGood_t1 (fun r0 s11 s12 => g.1 ((r0, ()), ((), s11, s12, ()), ((), ()))) r0 s11 s12) ?_ (fun g => by kernel_rfl)
    simp only [s_pzGood_t1]; repeat (first | exact Tail.const _ | exact Tail.here _ | exact Tail.there (Tail.here _) | exact Tail.there (Tail.there (Tail.here _)) | exact Tail.there (Tail.there (Tail.there (Tail.here _))) | exact Tail.there (Tail.there (Tail.there (Tail.there (Tail.here _)))) | exact Tail.there (Tail.there (Tail.there (Tail.there (Tail.there (Tail.here _))))) | apply Tail.cond | (apply Tail.bind; intro _)), trivial⟩
theorem s_pzGood_hs : ∀ x, Tail c_s_pzGood.pts (fun g => c_s_pzGood.start g x) := fun x => by
    obtain ⟨p0_Clues, _⟩ := x
    refine Tail.eq (Y := fun g => s_pzGood_t0 (fun r0 s11 s12 => g.1 ((r0, ()), ((), s11, s12, ()), ((), ()))) p0_Clues) ?_ (fun g => by kernel_rfl)
    simp only [s_pzGood_t0]; repeat (first | exact Tail.const _ | exact Tail.here _ | exact Tail.there (Tail.here _) | exact Tail.there (Tail.there (Tail.here _)) | exact Tail.there (Tail.there (Tail.there (Tail.here _))) | exact Tail.there (Tail.there (Tail.there (Tail.there (Tail.here _)))) | exact Tail.there (Tail.there (Tail.there (Tail.there (Tail.there (Tail.here _))))) | apply Tail.cond | (apply Tail.bind; intro _))
noncomputable def s_pzGood_L1 (r0 : List (Int × (Int × Int))) (s11 : Int) (s12 : Int) : Option Bool := c_s_pzGood.L.1 ((r0, ()), ((), s11, s12, ()), ((), ()))
theorem s_pzGood_u1 (r0 : List (Int × (Int × Int))) (s11 : Int) (s12 : Int) : s_pzGood_L1 r0 s11 s12 = s_pzGood_t1 s_pzGood_L1 r0 s11 s12 :=
  (congrArg (fun g => g.1 ((r0, ()), ((), s11, s12, ()), ((), ()))) (FnCx.L_eq s_pzGood_ts)).trans (by kernel_rfl)
noncomputable def s_pzGood (p0_Clues : List (Int × Int × Int)) : Option Bool := s_pzGood_t0 s_pzGood_L1 p0_Clues
theorem s_pzGood_e (p0_Clues : List (Int × Int × Int)) : c_s_pzGood.start c_s_pzGood.L (p0_Clues, ()) = s_pzGood p0_Clues := by kernel_rfl
-- NICE tot
noncomputable def s_pzGood_n (l : List (Int × Int × Int)) : Bool := bif decide ((l.length : Int) > 6) then false else bif l.any (fun c => !s_pzClue c.1 c.2.1 c.2.2) then false else true
theorem s_pzGood_ok (l : List (Int × Int × Int)) (hb : BdI c_s_pzGood.ins (l, ())) : s_pzGood l = some (s_pzGood_n l) := by
  have e := loop_any (L := fun i => s_pzGood_L1 l l.length (i : Int)) (l := l) (p := fun c => !s_pzClue c.1 c.2.1 c.2.2) (a := false) (b := true)
    (fun i h => by simp only [s_pzGood_u1 l l.length i, s_pzGood_t1, rdk_get (k := kClue) h, wrapS h hb.1.1]; simp [h]) (by simp [s_pzGood_u1 l l.length l.length, s_pzGood_t1])
  unfold s_pzGood s_pzGood_t0 s_pzGood_n
  cases decide ((l.length : Int) > 6)
  · exact e
  · rfl
theorem s_pzGood_len {p : List (Int × Int × Int)} (h : s_pzGood_n p = true) : p.length ≤ 6 := by
  unfold s_pzGood_n at h
  cases hl : decide ((p.length : Int) > 6)
  · have := of_decide_eq_false hl; omega
  · rw [hl] at h; cases h
noncomputable def F_s_pzGood : Ins c_s_pzGood.ins → Bool := fun x => s_pzGood_n x.1
noncomputable def S_s_pzGood : FSpec := mkT c_s_pzGood.env.pre c_s_pzGood.ins c_s_pzGood.out c_s_pzGood.inj F_s_pzGood
theorem h_s_pzGood : Cert Tryd.prog 29 S_s_pzGood := FnCx.certT (c := c_s_pzGood) F_s_pzGood (tyOk _ _ _) (spOk ⟨h_s_pzClue, fun _ _ h => h, trivial⟩) (fun _ _ _ _ _ hs => noDr_ok) Tryd.func29 rfl rfl Tryd.ntmps29 (by kernel_rfl) rfl rfl (fun _ => rfl) s_pzGood_ts s_pzGood_hs (fun x hb => by
  obtain ⟨p0_Clues, _⟩ := x
  exact (s_pzGood_e p0_Clues).trans (s_pzGood_ok p0_Clues hb))
/-! spec.l1Num -/
noncomputable def SR_s_l1Num (RR : Int → Option (ByteArray)) : FSpec := mkF (T := ByteArray) textPre [.ro kint] [(kstring, true)] (fun t => ((t, ()), ((), ()))) (fun x => RR x.1)
noncomputable def c_s_l1Num (RR : Int → Option (ByteArray)) : FnCx := { env := env 20 [(44, SR_s_l1Num RR)] [], body := bodyOf Tryd.f44, res := [.tmp 2], ins := [.ro kint], out := [(kstring, true)], T := ByteArray, fin := fun r => r.1.1, inj := fun t => ((t, ()), ((), ())), pts := [], fuel := 400, dr := evDr (env 20 [(44, SR_s_l1Num RR)] []) }
noncomputable def s_l1Num (RR : Int → Option (ByteArray)) (n0 : Int) : Option ByteArray :=
  bif decide (n0 < 10) then
    some (List.foldl (fun r n => ByteArray.push r (UInt8.ofNat (Int.toNat n))) ByteArray.empty [IntKind.wrap IntKind.u8 (IntKind.wrap IntKind.i64 (48 + n0))])
  else
    Option.bind (RR (IntKind.wrap IntKind.i64 (Int.tdiv n0 10))) fun r =>
      bif
          Nat.ble
            (ByteArray.size r +
              ByteArray.size
                (List.foldl (fun r n => ByteArray.push r (UInt8.ofNat (Int.toNat n))) ByteArray.empty
                  [IntKind.wrap IntKind.u8 (IntKind.wrap IntKind.i64 (48 + Int.tmod n0 10))]))
            9223372036854775807 then
        some
          (r ++
            List.foldl (fun r n => ByteArray.push r (UInt8.ofNat (Int.toNat n))) ByteArray.empty
              [IntKind.wrap IntKind.u8 (IntKind.wrap IntKind.i64 (48 + Int.tmod n0 10))])
      else none
theorem s_l1Num_e (RR : Int → Option (ByteArray)) (n0 : Int) : (c_s_l1Num RR).start (c_s_l1Num RR).L (n0, ()) = (s_l1Num RR) n0 := by kernel_rfl
noncomputable def s_l1Num_it : Nat → Int → Option (ByteArray) := fun n => Nat.rec (fun _ => none) (fun _ RR => s_l1Num RR) n
theorem s_l1Num_is (n : Nat) (n0 : Int) : s_l1Num_it (n + 1) n0 = s_l1Num (s_l1Num_it n) n0 := rfl
theorem hh_s_l1Num : ∀ n, Cert Tryd.prog 44 (SR_s_l1Num (s_l1Num_it n))
  | 0 => cert_none Tryd.func44 rfl (by kernel_rfl) rfl rfl
  | n + 1 => FnCx.certF (c := c_s_l1Num (s_l1Num_it n)) (fun x => s_l1Num_it (n + 1) x.1) (tyOk _ _ _) (spOk ⟨hh_s_l1Num n, fun _ _ h => h, trivial⟩) (fun _ _ _ _ _ hs => evDr_ok (tyOk _ _ _) hs follows) Tryd.func44 rfl rfl Tryd.ntmps44 (by kernel_rfl) rfl rfl (fun _ => rfl) trivial (fun x => .inl ⟨(c_s_l1Num (s_l1Num_it n)).start () x, fun _ => rfl⟩) (fun x t hb ht => by
    obtain ⟨n0, _⟩ := x
    exact (s_l1Num_e (s_l1Num_it n) n0).trans ht)
-- NICE rec
theorem wrapU8 {n : Int} (h1 : 0 ≤ n) (h2 : n ≤ 255) : IntKind.wrap .u8 n = n := by
  unfold IntKind.wrap
  simp [IntKind.signed, IntKind.bits]
  omega
theorem bytes_app (a b : List UInt8) : (⟨a.toArray⟩ : ByteArray) ++ ⟨b.toArray⟩ = ⟨(a ++ b).toArray⟩ := ByteArray.ext (by rw [ByteArray.data_append]; simp)
theorem dec_len : ∀ u : Nat, (Lib.decDigits u).length ≤ u + 1 := by
  intro u
  induction u using Nat.strongRecOn with
  | ind u ih =>
    rw [Lib.decDigits]
    by_cases h : u < 10
    · rw [dif_pos h]; simp
    · rw [dif_neg h]
      have := ih (u / 10) (by omega)
      rw [List.length_append, List.length_singleton]; omega
theorem itoa_nat (n : Nat) : Lib.itoa (n : Int) = Lib.decDigits n := by
  unfold Lib.itoa
  rw [if_neg (by omega), Int.toNat_natCast]
theorem digit_eq {m : Nat} (h : m < 10) : List.foldl (fun r n => ByteArray.push r (UInt8.ofNat (Int.toNat n))) ByteArray.empty [IntKind.wrap .u8 (IntKind.wrap .i64 (48 + (m : Int)))] = ⟨([UInt8.ofNat (48 + m)] : List UInt8).toArray⟩ := by
  rw [wrapI (n := 48 + (m : Int)) (by omega) (by omega), wrapU8 (by omega) (by omega), show (48 + (m : Int)) = ((48 + m : Nat) : Int) by omega]
  simp only [List.foldl_cons, List.foldl_nil, Int.toNat_natCast]
  rfl
theorem num_it : ∀ (k n : Nat), n < k → n ≤ 4000000000000000000 → s_l1Num_it k (n : Int) = some ⟨(Lib.decDigits n).toArray⟩
  | 0, n, h, _ => by omega
  | k + 1, n, h, hn => by
    rw [s_l1Num_is, s_l1Num]
    by_cases h10 : n < 10
    · rw [decide_eq_true (show (n : Int) < 10 by omega), cond_true, digit_eq h10, Lib.decDigits, dif_pos h10]
    · have hm : Int.tmod (n : Int) 10 = ((n % 10 : Nat) : Int) := by rw [Int.tmod_eq_emod_of_nonneg (by omega)]; rfl
      have hd : Int.tdiv (n : Int) 10 = ((n / 10 : Nat) : Int) := by rw [Int.tdiv_eq_ediv_of_nonneg (by omega)]; rfl
      have ih := num_it k (n / 10) (by omega) (by omega)
      have hl := dec_len (n / 10)
      rw [decide_eq_false (show ¬ (n : Int) < 10 by omega), cond_false, hd, hm, wrapI (n := ((n / 10 : Nat) : Int)) (by omega) (by omega), ih, Option.bind_some, digit_eq (Nat.mod_lt n (by omega)), ble_dec, decide_eq_true, cond_true, bytes_app, Lib.decDigits.eq_def n, dif_neg h10]
      show (Lib.decDigits (n / 10)).toArray.size + 1 ≤ _
      simp; omega
noncomputable def s_l1Num_n (n : Int) : Option ByteArray := bif decide (0 ≤ n) && decide (n ≤ 4000000000000000000) then some ⟨(Lib.itoa n).toArray⟩ else none
theorem s_l1Num_ok (n : Int) (t : ByteArray) (h : s_l1Num_n n = some t) : ∃ k, s_l1Num_it k n = some t := by
  unfold s_l1Num_n at h
  cases hc : decide (0 ≤ n) && decide (n ≤ 4000000000000000000)
  · rw [hc] at h; cases h
  · rw [hc, cond_true] at h
    cases h
    rw [Bool.and_eq_true, decide_eq_true_eq, decide_eq_true_eq] at hc
    obtain ⟨m, rfl⟩ := Int.eq_ofNat_of_zero_le hc.1
    exact ⟨m + 1, by rw [num_it (m + 1) m (by omega) (by omega), itoa_nat]⟩
noncomputable def F_s_l1Num : Ins [.ro kint] → Option ByteArray := fun x => s_l1Num_n x.1
noncomputable def S_s_l1Num : FSpec := mkF (T := ByteArray) textPre [.ro kint] [(kstring, true)] (fun t => ((t, ()), ((), ()))) F_s_l1Num
theorem h_s_l1Num : Cert Tryd.prog 44 S_s_l1Num := cert_lim hh_s_l1Num (fun x t hb ht => by
  obtain ⟨n0, _⟩ := x
  exact s_l1Num_ok n0 t ht)
/-! spec.pzText -/
noncomputable def c_s_pzText : FnCx := { env := env 35 [(44, S_s_l1Num)] [], body := bodyOf Tryd.f30, res := [.tmp 2], ins := [.ro kPuzzle], out := [(kstring, true)], T := ByteArray, fin := fun r => r.1.1, inj := fun t => ((t, ()), ((), ())), pts := [([.inLoop [1, 1, 0, 1, 0, 0], .inBlock 0, .code [1, 1, 1]], Shape.mk [Bs.row kwClue 54 false] [(3, Ss.one (Cs.sc kstring)), (7, Ss.one (Cs.sl 0)), (8, Ss.one (Cs.sc kint)), (9, Ss.one (Cs.sc kint))] [Ss.one (Cs.any)])], fuel := 400, dr := evDr (env 35 [(44, S_s_l1Num)] []) }
noncomputable def s_pzText_t1 (g1 : List (Int × (Int × Int)) → ByteArray → Int → Int → Option (ByteArray)) (r0 : List (Int × (Int × Int))) (out3 : ByteArray) (s8 : Int) (s9 : Int) : Option ByteArray :=
  bif decide (s9 < s8) then
    bif decide (0 ≤ s9) then
      bif decide (s9 < (↑(List.length r0) : Int)) then
        bif decide (s9 > 0) then
          bif Nat.ble (ByteArray.size out3 + ByteArray.size { data := #[44] }) 9223372036854775807 then
            Option.bind (s_l1Num_n (Prod.fst (rdk kwClue r0 s9))) fun r =>
              bif Nat.ble (ByteArray.size r + ByteArray.size { data := #[46] }) 9223372036854775807 then
                Option.bind
                  (s_l1Num_n (Prod.fst (Prod.snd (rdk kwClue r0 s9))))
                  fun r_1 =>
                  bif Nat.ble (ByteArray.size (r ++ { data := #[46] }) + ByteArray.size r_1) 9223372036854775807 then
                    bif Nat.ble (ByteArray.size (r ++ { data := #[46] } ++ r_1) + ByteArray.size { data := #[46] }) 9223372036854775807 then
                      Option.bind
                        (s_l1Num_n (Prod.snd (Prod.snd (rdk kwClue r0 s9))))
                        fun r_2 =>
                        bif Nat.ble (ByteArray.size (r ++ { data := #[46] } ++ r_1 ++ { data := #[46] }) + ByteArray.size r_2) 9223372036854775807 then
                          bif
                              Nat.ble (ByteArray.size (out3 ++ { data := #[44] }) + ByteArray.size (r ++ { data := #[46] } ++ r_1 ++ { data := #[46] } ++ r_2))
                                9223372036854775807 then
                            g1 r0 (out3 ++ { data := #[44] } ++ (r ++ { data := #[46] } ++ r_1 ++ { data := #[46] } ++ r_2)) s8
                              (IntKind.wrap IntKind.i64 (s9 + 1))
                          else none
                        else none
                    else none
                  else none
              else none
          else none
        else
          Option.bind (s_l1Num_n (Prod.fst (rdk kwClue r0 s9))) fun r =>
            bif Nat.ble (ByteArray.size r + ByteArray.size { data := #[46] }) 9223372036854775807 then
              Option.bind (s_l1Num_n (Prod.fst (Prod.snd (rdk kwClue r0 s9))))
                fun r_1 =>
                bif Nat.ble (ByteArray.size (r ++ { data := #[46] }) + ByteArray.size r_1) 9223372036854775807 then
                  bif Nat.ble (ByteArray.size (r ++ { data := #[46] } ++ r_1) + ByteArray.size { data := #[46] }) 9223372036854775807 then
                    Option.bind
                      (s_l1Num_n (Prod.snd (Prod.snd (rdk kwClue r0 s9))))
                      fun r_2 =>
                      bif Nat.ble (ByteArray.size (r ++ { data := #[46] } ++ r_1 ++ { data := #[46] }) + ByteArray.size r_2) 9223372036854775807 then
                        bif Nat.ble (ByteArray.size out3 + ByteArray.size (r ++ { data := #[46] } ++ r_1 ++ { data := #[46] } ++ r_2)) 9223372036854775807 then
                          g1 r0 (out3 ++ (r ++ { data := #[46] } ++ r_1 ++ { data := #[46] } ++ r_2)) s8 (IntKind.wrap IntKind.i64 (s9 + 1))
                        else none
                      else none
                  else none
                else none
            else none
      else none
    else none
  else some out3
noncomputable def s_pzText_t0 (g1 : List (Int × (Int × Int)) → ByteArray → Int → Int → Option (ByteArray)) (p0_Clues : List (Int × Int × Int)) : Option ByteArray :=
  g1 p0_Clues { data := #[] } (↑(List.length p0_Clues) : Int) 0
theorem s_pzText_ts : Tails c_s_pzText.pts c_s_pzText.round :=
  ⟨fun s => by
    obtain ⟨⟨r0, _⟩, ⟨out3, _, s8, s9, _⟩, ⟨_, _⟩⟩ := s
    refine Tail.eq (Y := fun g => s_pzText_t1 (fun r0 out3 s8 s9 => g.1 ((r0, ()), (out3, (), s8, s9, ()), ((), ()))) r0 out3 s8 s9) ?_ (fun g => by kernel_rfl)
    simp only [s_pzText_t1]; repeat (first | apply Tail.cond | (apply Tail.bind; intro _) | exact Tail.here _ | exact Tail.there (Tail.here _) | exact Tail.there (Tail.there (Tail.here _)) | exact Tail.there (Tail.there (Tail.there (Tail.here _))) | exact Tail.there (Tail.there (Tail.there (Tail.there (Tail.here _)))) | exact Tail.there (Tail.there (Tail.there (Tail.there (Tail.there (Tail.here _))))) | exact Tail.const _), trivial⟩
theorem s_pzText_hs : ∀ x, Tail c_s_pzText.pts (fun g => c_s_pzText.start g x) := fun x => by
    obtain ⟨p0_Clues, _⟩ := x
    refine Tail.eq (Y := fun g => s_pzText_t0 (fun r0 out3 s8 s9 => g.1 ((r0, ()), (out3, (), s8, s9, ()), ((), ()))) p0_Clues) ?_ (fun g => by kernel_rfl)
    simp only [s_pzText_t0]; repeat (first | apply Tail.cond | (apply Tail.bind; intro _) | exact Tail.here _ | exact Tail.there (Tail.here _) | exact Tail.there (Tail.there (Tail.here _)) | exact Tail.there (Tail.there (Tail.there (Tail.here _))) | exact Tail.there (Tail.there (Tail.there (Tail.there (Tail.here _)))) | exact Tail.there (Tail.there (Tail.there (Tail.there (Tail.there (Tail.here _))))) | exact Tail.const _)
noncomputable def s_pzText_L1 (r0 : List (Int × (Int × Int))) (out3 : ByteArray) (s8 : Int) (s9 : Int) : Option ByteArray := c_s_pzText.L.1 ((r0, ()), (out3, (), s8, s9, ()), ((), ()))
theorem s_pzText_u1 (r0 : List (Int × (Int × Int))) (out3 : ByteArray) (s8 : Int) (s9 : Int) : s_pzText_L1 r0 out3 s8 s9 = s_pzText_t1 s_pzText_L1 r0 out3 s8 s9 :=
  (congrArg (fun g => g.1 ((r0, ()), (out3, (), s8, s9, ()), ((), ()))) (FnCx.L_eq s_pzText_ts)).trans (by kernel_rfl)
noncomputable def s_pzText (p0_Clues : List (Int × Int × Int)) : Option ByteArray := s_pzText_t0 s_pzText_L1 p0_Clues
theorem s_pzText_e (p0_Clues : List (Int × Int × Int)) : c_s_pzText.start c_s_pzText.L (p0_Clues, ()) = s_pzText p0_Clues := by kernel_rfl
noncomputable def F_s_pzText : Ins c_s_pzText.ins → Option ByteArray := fun x => s_pzText x.1
noncomputable def S_s_pzText : FSpec := mkF c_s_pzText.env.pre c_s_pzText.ins c_s_pzText.out c_s_pzText.inj F_s_pzText
theorem h_s_pzText : Cert Tryd.prog 30 S_s_pzText := FnCx.certF (c := c_s_pzText) F_s_pzText (tyOk _ _ _) (spOk ⟨h_s_l1Num, fun _ _ h => h, trivial⟩) (fun _ _ _ _ _ hs => evDr_ok (tyOk _ _ _) hs follows) Tryd.func30 rfl rfl Tryd.ntmps30 (by kernel_rfl) rfl rfl (fun _ => rfl) s_pzText_ts s_pzText_hs (fun x t hb ht => by
  obtain ⟨p0_Clues, _⟩ := x
  exact (s_pzText_e p0_Clues).trans ht)
/-! spec.PuzzleText -/
noncomputable def c_s_PuzzleText : FnCx := { env := env 9 [(29, S_s_pzGood), (30, S_s_pzText)] [], body := bodyOf Tryd.f12, res := [.tmp 2, .tmp 3], ins := [.ro kPuzzle], out := [(kstring, true), (kbool, true)], T := ByteArray × Bool, fin := fun r => (r.1.1, r.1.2.1), inj := fun t => ((t.1, t.2, ()), ((), ())), pts := [], fuel := 400, dr := noDr }
noncomputable def s_PuzzleText (p0_Clues : List (Int × Int × Int)) : Option (ByteArray × Bool) :=
  bif !s_pzGood_n p0_Clues then some ({ data := #[] }, false) else Option.bind (s_pzText p0_Clues) fun r => some (r, true)
theorem s_PuzzleText_e (p0_Clues : List (Int × Int × Int)) : c_s_PuzzleText.start c_s_PuzzleText.L (p0_Clues, ()) = s_PuzzleText p0_Clues := by kernel_rfl
noncomputable def F_s_PuzzleText : Ins c_s_PuzzleText.ins → Option (ByteArray × Bool) := fun x => s_PuzzleText x.1
noncomputable def S_s_PuzzleText : FSpec := mkF c_s_PuzzleText.env.pre c_s_PuzzleText.ins c_s_PuzzleText.out c_s_PuzzleText.inj F_s_PuzzleText
theorem h_s_PuzzleText : Cert Tryd.prog 12 S_s_PuzzleText := FnCx.certF (c := c_s_PuzzleText) F_s_PuzzleText (tyOk _ _ _) (spOk ⟨h_s_pzGood, fun _ _ h => h, ⟨h_s_pzText, fun _ _ h => h, trivial⟩⟩) (fun _ _ _ _ _ hs => noDr_ok) Tryd.func12 rfl rfl Tryd.ntmps12 (by kernel_rfl) rfl rfl (fun _ => rfl) trivial (fun x => .inl ⟨c_s_PuzzleText.start () x, fun _ => rfl⟩) (fun x t hb ht => by
  obtain ⟨p0_Clues, _⟩ := x
  exact (s_PuzzleText_e p0_Clues).trans ht)
/-! impl.within -/
noncomputable def c_i_within : FnCx := { env := env 15 [] [], body := bodyOf Tryd.f45, res := [.tmp 6], ins := [.ro kint, .ro kint, .ro kint], out := [(kbool, true)], T := Bool, fin := fun r => r.1.1, inj := fun t => ((t, ()), ((), (), (), ())), pts := [], fuel := 400, dr := noDr }
noncomputable def i_within (n0 : Int) (low1 : Int) (high2 : Int) : Bool :=
  bif decide (low1 ≤ n0) then decide (n0 ≤ high2) else false
theorem i_within_e (n0 : Int) (low1 : Int) (high2 : Int) : c_i_within.start c_i_within.L (n0, low1, high2, ()) = some (i_within n0 low1 high2) := by
  refine Eq.trans (b := (bif decide (low1 ≤ n0) then some (decide (n0 ≤ high2)) else some false : Option Bool)) (by kernel_rfl) ?_
  unfold i_within
  repeat (first | rfl | apply condS)
noncomputable def F_i_within : Ins c_i_within.ins → Bool := fun x => i_within x.1 x.2.1 x.2.2.1
noncomputable def S_i_within : FSpec := mkT c_i_within.env.pre c_i_within.ins c_i_within.out c_i_within.inj F_i_within
theorem h_i_within : Cert Tryd.prog 45 S_i_within := FnCx.certT (c := c_i_within) F_i_within (tyOk _ _ _) (spOk trivial) (fun _ _ _ _ _ hs => noDr_ok) Tryd.func45 rfl rfl Tryd.ntmps45 (by kernel_rfl) rfl rfl (fun _ => rfl) trivial (fun x => .inl ⟨c_i_within.start () x, fun _ => rfl⟩) (fun x hb => by
  obtain ⟨n0, low1, high2, _⟩ := x
  exact i_within_e n0 low1 high2)
/-! impl.IsClue -/
noncomputable def c_i_IsClue : FnCx := { env := env 38 [(45, S_i_within)] [], body := bodyOf Tryd.f54, res := [.tmp 2], ins := [.ro kClue], out := [(kbool, true)], T := Bool, fin := fun r => r.1.1, inj := fun t => ((t, ()), ((), ())), pts := [], fuel := 400, dr := noDr }
noncomputable def i_IsClue (c0_Kind : Int) (c0_A : Int) (c0_B : Int) : Bool :=
  bif !i_within c0_Kind 0 5 then false
  else
    bif !i_within c0_B 0 60 then false
    else
      bif c0_Kind == 2 then bif i_within c0_A 1 3 then decide (c0_B ≤ 1) else false
      else bif c0_Kind == 3 then bif i_within c0_A 1 7 then decide (c0_B ≤ 1) else false else c0_A == 0
theorem i_IsClue_e (c0_Kind : Int) (c0_A : Int) (c0_B : Int) : c_i_IsClue.start c_i_IsClue.L ((c0_Kind, c0_A, c0_B), ()) = some (i_IsClue c0_Kind c0_A c0_B) := by
  refine Eq.trans (b := (bif !i_within c0_Kind 0 5 then some false else bif !i_within c0_B 0 60 then some false else bif c0_Kind == 2 then bif i_within c0_A 1 3 then some (decide (c0_B ≤ 1)) else some false else bif c0_Kind == 3 then bif i_within c0_A 1 7 then some (decide (c0_B ≤ 1)) else some false else some (c0_A == 0) : Option Bool)) (by kernel_rfl) ?_
  unfold i_IsClue
  repeat (first | rfl | apply condS)
noncomputable def F_i_IsClue : Ins c_i_IsClue.ins → Bool := fun x => i_IsClue x.1.1 x.1.2.1 x.1.2.2
noncomputable def S_i_IsClue : FSpec := mkT c_i_IsClue.env.pre c_i_IsClue.ins c_i_IsClue.out c_i_IsClue.inj F_i_IsClue
theorem h_i_IsClue : Cert Tryd.prog 54 S_i_IsClue := FnCx.certT (c := c_i_IsClue) F_i_IsClue (tyOk _ _ _) (spOk ⟨h_i_within, fun _ _ h => h, trivial⟩) (fun _ _ _ _ _ hs => noDr_ok) Tryd.func54 rfl rfl Tryd.ntmps54 (by kernel_rfl) rfl rfl (fun _ => rfl) trivial (fun x => .inl ⟨c_i_IsClue.start () x, fun _ => rfl⟩) (fun x hb => by
  obtain ⟨⟨c0_Kind, c0_A, c0_B⟩, _⟩ := x
  exact i_IsClue_e c0_Kind c0_A c0_B)
/-! impl.IsPuzzle$1 -/
noncomputable def c_i_IsPuzzle_c1 : FnCx := { env := env 6 [(54, S_i_IsClue)] [], body := bodyOf Tryd.f53, res := [.tmp 2], ins := [.ro kClue], out := [(kbool, true)], T := Bool, fin := fun r => r.1.1, inj := fun t => ((t, ()), ((), ())), pts := [], fuel := 400, dr := noDr }
noncomputable def i_IsPuzzle_c1 (c0_Kind : Int) (c0_A : Int) (c0_B : Int) : Bool :=
  !i_IsClue c0_Kind c0_A c0_B
theorem i_IsPuzzle_c1_e (c0_Kind : Int) (c0_A : Int) (c0_B : Int) : c_i_IsPuzzle_c1.start c_i_IsPuzzle_c1.L ((c0_Kind, c0_A, c0_B), ()) = some (i_IsPuzzle_c1 c0_Kind c0_A c0_B) := by kernel_rfl
noncomputable def F_i_IsPuzzle_c1 : Ins c_i_IsPuzzle_c1.ins → Bool := fun x => i_IsPuzzle_c1 x.1.1 x.1.2.1 x.1.2.2
noncomputable def S_i_IsPuzzle_c1 : FSpec := mkT c_i_IsPuzzle_c1.env.pre c_i_IsPuzzle_c1.ins c_i_IsPuzzle_c1.out c_i_IsPuzzle_c1.inj F_i_IsPuzzle_c1
theorem h_i_IsPuzzle_c1 : Cert Tryd.prog 53 S_i_IsPuzzle_c1 := FnCx.certT (c := c_i_IsPuzzle_c1) F_i_IsPuzzle_c1 (tyOk _ _ _) (spOk ⟨h_i_IsClue, fun _ _ h => h, trivial⟩) (fun _ _ _ _ _ hs => noDr_ok) Tryd.func53 rfl rfl Tryd.ntmps53 (by kernel_rfl) rfl rfl (fun _ => rfl) trivial (fun x => .inl ⟨c_i_IsPuzzle_c1.start () x, fun _ => rfl⟩) (fun x hb => by
  obtain ⟨⟨c0_Kind, c0_A, c0_B⟩, _⟩ := x
  exact i_IsPuzzle_c1_e c0_Kind c0_A c0_B)
/-! slices.IndexFunc[[]impl.Clue,impl.Clue] -/
noncomputable def c_slices_IndexFunc_Clue__i_IsPuzzle_c1 : FnCx := { env := env 19 [(53, S_i_IsPuzzle_c1)] [], body := bodyOf Tryd.f63, res := [.tmp 4], ins := [.ro kSClue, .fn 53 []], out := [(kint, true)], T := Int, fin := fun r => r.1.1, inj := fun t => ((t, ()), ((), (), ())), pts := [([.inLoop [1, 0, 1, 0, 0], .inBlock 0, .code [1, 1]], Shape.mk [Bs.row kwClue 54 false] [(0, Ss.one (Cs.sl 0)), (1, Ss.fn 53 []), (7, Ss.one (Cs.sc kint)), (8, Ss.one (Cs.sc kint))] [Ss.one (Cs.any), Ss.fn 53 []])], fuel := 400, dr := noDr }
noncomputable def slices_IndexFunc_Clue__i_IsPuzzle_c1_t1 (g1 : List (Int × (Int × Int)) → Int → Int → Option (Int)) (r0 : List (Int × (Int × Int))) (s7 : Int) (s8 : Int) : Option Int :=
  bif decide (s8 < s7) then
    bif decide (0 ≤ s8) then
      bif decide (s8 < (↑(List.length r0) : Int)) then
        bif
            i_IsPuzzle_c1 (Prod.fst (rdk kwClue r0 s8))
              (Prod.fst (Prod.snd (rdk kwClue r0 s8)))
              (Prod.snd (Prod.snd (rdk kwClue r0 s8))) then
          some s8
        else g1 r0 s7 (IntKind.wrap IntKind.i64 (s8 + 1))
      else none
    else none
  else some (-1)
noncomputable def slices_IndexFunc_Clue__i_IsPuzzle_c1_t0 (g1 : List (Int × (Int × Int)) → Int → Int → Option (Int)) (s0 : List (Int × Int × Int)) : Option Int :=
  g1 s0 (↑(List.length s0) : Int) 0
theorem slices_IndexFunc_Clue__i_IsPuzzle_c1_ts : Tails c_slices_IndexFunc_Clue__i_IsPuzzle_c1.pts c_slices_IndexFunc_Clue__i_IsPuzzle_c1.round :=
  ⟨fun s => by
    obtain ⟨⟨r0, _⟩, ⟨_, _, s7, s8, _⟩, ⟨_, _, _⟩⟩ := s
    refine Tail.eq (Y := fun g => slices_IndexFunc_Clue__i_IsPuzzle_c1_t1 (fun r0 s7 s8 => g.1 ((r0, ()), ((), (), s7, s8, ()), ((), (), ()))) r0 s7 s8) ?_ (fun g => by kernel_rfl)
    simp only [slices_IndexFunc_Clue__i_IsPuzzle_c1_t1]; repeat (first | exact Tail.const _ | exact Tail.here _ | exact Tail.there (Tail.here _) | exact Tail.there (Tail.there (Tail.here _)) | exact Tail.there (Tail.there (Tail.there (Tail.here _))) | exact Tail.there (Tail.there (Tail.there (Tail.there (Tail.here _)))) | exact Tail.there (Tail.there (Tail.there (Tail.there (Tail.there (Tail.here _))))) | apply Tail.cond | (apply Tail.bind; intro _)), trivial⟩
theorem slices_IndexFunc_Clue__i_IsPuzzle_c1_hs : ∀ x, Tail c_slices_IndexFunc_Clue__i_IsPuzzle_c1.pts (fun g => c_slices_IndexFunc_Clue__i_IsPuzzle_c1.start g x) := fun x => by
    obtain ⟨s0, _, _⟩ := x
    refine Tail.eq (Y := fun g => slices_IndexFunc_Clue__i_IsPuzzle_c1_t0 (fun r0 s7 s8 => g.1 ((r0, ()), ((), (), s7, s8, ()), ((), (), ()))) s0) ?_ (fun g => by kernel_rfl)
    simp only [slices_IndexFunc_Clue__i_IsPuzzle_c1_t0]; repeat (first | exact Tail.const _ | exact Tail.here _ | exact Tail.there (Tail.here _) | exact Tail.there (Tail.there (Tail.here _)) | exact Tail.there (Tail.there (Tail.there (Tail.here _))) | exact Tail.there (Tail.there (Tail.there (Tail.there (Tail.here _)))) | exact Tail.there (Tail.there (Tail.there (Tail.there (Tail.there (Tail.here _))))) | apply Tail.cond | (apply Tail.bind; intro _))
noncomputable def slices_IndexFunc_Clue__i_IsPuzzle_c1_L1 (r0 : List (Int × (Int × Int))) (s7 : Int) (s8 : Int) : Option Int := c_slices_IndexFunc_Clue__i_IsPuzzle_c1.L.1 ((r0, ()), ((), (), s7, s8, ()), ((), (), ()))
theorem slices_IndexFunc_Clue__i_IsPuzzle_c1_u1 (r0 : List (Int × (Int × Int))) (s7 : Int) (s8 : Int) : slices_IndexFunc_Clue__i_IsPuzzle_c1_L1 r0 s7 s8 = slices_IndexFunc_Clue__i_IsPuzzle_c1_t1 slices_IndexFunc_Clue__i_IsPuzzle_c1_L1 r0 s7 s8 :=
  (congrArg (fun g => g.1 ((r0, ()), ((), (), s7, s8, ()), ((), (), ()))) (FnCx.L_eq slices_IndexFunc_Clue__i_IsPuzzle_c1_ts)).trans (by kernel_rfl)
noncomputable def slices_IndexFunc_Clue__i_IsPuzzle_c1 (s0 : List (Int × Int × Int)) : Option Int := slices_IndexFunc_Clue__i_IsPuzzle_c1_t0 slices_IndexFunc_Clue__i_IsPuzzle_c1_L1 s0
theorem slices_IndexFunc_Clue__i_IsPuzzle_c1_e (s0 : List (Int × Int × Int)) : c_slices_IndexFunc_Clue__i_IsPuzzle_c1.start c_slices_IndexFunc_Clue__i_IsPuzzle_c1.L (s0, (), ()) = slices_IndexFunc_Clue__i_IsPuzzle_c1 s0 := by kernel_rfl
-- NICE tot
noncomputable def slices_IndexFunc_Clue__i_IsPuzzle_c1_n (l : List (Int × Int × Int)) : Int := idxF (fun x => i_IsPuzzle_c1 x.1 x.2.1 x.2.2) l 0
theorem slices_IndexFunc_Clue__i_IsPuzzle_c1_ok (l : List (Int × Int × Int)) (hb : BdI c_slices_IndexFunc_Clue__i_IsPuzzle_c1.ins (l, (), ())) : slices_IndexFunc_Clue__i_IsPuzzle_c1 l = some (slices_IndexFunc_Clue__i_IsPuzzle_c1_n l) :=
  have hm : l.length ≤ maxLen := hb.1.1
  loop_idx (L := fun i => slices_IndexFunc_Clue__i_IsPuzzle_c1_L1 l l.length (i : Int)) (l := l) (p := fun x => i_IsPuzzle_c1 x.1 x.2.1 x.2.2)
    (fun i h => by simp only [slices_IndexFunc_Clue__i_IsPuzzle_c1_u1 l l.length i, slices_IndexFunc_Clue__i_IsPuzzle_c1_t1, rdk_get (k := kClue) h, wrapS h hm]; simp [h]) (by simp [slices_IndexFunc_Clue__i_IsPuzzle_c1_u1 l l.length l.length, slices_IndexFunc_Clue__i_IsPuzzle_c1_t1])
noncomputable def F_slices_IndexFunc_Clue__i_IsPuzzle_c1 : Ins c_slices_IndexFunc_Clue__i_IsPuzzle_c1.ins → Int := fun x => slices_IndexFunc_Clue__i_IsPuzzle_c1_n x.1
noncomputable def S_slices_IndexFunc_Clue__i_IsPuzzle_c1 : FSpec := mkT c_slices_IndexFunc_Clue__i_IsPuzzle_c1.env.pre c_slices_IndexFunc_Clue__i_IsPuzzle_c1.ins c_slices_IndexFunc_Clue__i_IsPuzzle_c1.out c_slices_IndexFunc_Clue__i_IsPuzzle_c1.inj F_slices_IndexFunc_Clue__i_IsPuzzle_c1
theorem h_slices_IndexFunc_Clue__i_IsPuzzle_c1 : Cert Tryd.prog 63 S_slices_IndexFunc_Clue__i_IsPuzzle_c1 := FnCx.certT (c := c_slices_IndexFunc_Clue__i_IsPuzzle_c1) F_slices_IndexFunc_Clue__i_IsPuzzle_c1 (tyOk _ _ _) (spOk ⟨h_i_IsPuzzle_c1, fun _ _ h => h, trivial⟩) (fun _ _ _ _ _ hs => noDr_ok) Tryd.func63 rfl rfl Tryd.ntmps63 (by kernel_rfl) rfl rfl (fun _ => rfl) slices_IndexFunc_Clue__i_IsPuzzle_c1_ts slices_IndexFunc_Clue__i_IsPuzzle_c1_hs (fun x hb => by
  obtain ⟨s0, _, _⟩ := x
  exact (slices_IndexFunc_Clue__i_IsPuzzle_c1_e s0).trans (slices_IndexFunc_Clue__i_IsPuzzle_c1_ok s0 hb))
/-! slices.ContainsFunc[[]impl.Clue,impl.Clue] -/
noncomputable def c_slices_ContainsFunc_Clue__i_IsPuzzle_c1 : FnCx := { env := env 9 [(63, S_slices_IndexFunc_Clue__i_IsPuzzle_c1)] [], body := bodyOf Tryd.f52, res := [.tmp 4], ins := [.ro kSClue, .fn 53 []], out := [(kbool, true)], T := Bool, fin := fun r => r.1.1, inj := fun t => ((t, ()), ((), (), ())), pts := [], fuel := 400, dr := noDr }
noncomputable def slices_ContainsFunc_Clue__i_IsPuzzle_c1 (s0 : List (Int × Int × Int)) : Bool :=
  decide (slices_IndexFunc_Clue__i_IsPuzzle_c1_n s0 ≥ 0)
theorem slices_ContainsFunc_Clue__i_IsPuzzle_c1_e (s0 : List (Int × Int × Int)) : c_slices_ContainsFunc_Clue__i_IsPuzzle_c1.start c_slices_ContainsFunc_Clue__i_IsPuzzle_c1.L (s0, (), ()) = some (slices_ContainsFunc_Clue__i_IsPuzzle_c1 s0) := by kernel_rfl
noncomputable def F_slices_ContainsFunc_Clue__i_IsPuzzle_c1 : Ins c_slices_ContainsFunc_Clue__i_IsPuzzle_c1.ins → Bool := fun x => slices_ContainsFunc_Clue__i_IsPuzzle_c1 x.1
noncomputable def S_slices_ContainsFunc_Clue__i_IsPuzzle_c1 : FSpec := mkT c_slices_ContainsFunc_Clue__i_IsPuzzle_c1.env.pre c_slices_ContainsFunc_Clue__i_IsPuzzle_c1.ins c_slices_ContainsFunc_Clue__i_IsPuzzle_c1.out c_slices_ContainsFunc_Clue__i_IsPuzzle_c1.inj F_slices_ContainsFunc_Clue__i_IsPuzzle_c1
theorem h_slices_ContainsFunc_Clue__i_IsPuzzle_c1 : Cert Tryd.prog 52 S_slices_ContainsFunc_Clue__i_IsPuzzle_c1 := FnCx.certT (c := c_slices_ContainsFunc_Clue__i_IsPuzzle_c1) F_slices_ContainsFunc_Clue__i_IsPuzzle_c1 (tyOk _ _ _) (spOk ⟨h_slices_IndexFunc_Clue__i_IsPuzzle_c1, fun _ _ h => h, trivial⟩) (fun _ _ _ _ _ hs => noDr_ok) Tryd.func52 rfl rfl Tryd.ntmps52 (by kernel_rfl) rfl rfl (fun _ => rfl) trivial (fun x => .inl ⟨c_slices_ContainsFunc_Clue__i_IsPuzzle_c1.start () x, fun _ => rfl⟩) (fun x hb => by
  obtain ⟨s0, _, _⟩ := x
  exact slices_ContainsFunc_Clue__i_IsPuzzle_c1_e s0)
/-! impl.IsPuzzle -/
noncomputable def c_i_IsPuzzle : FnCx := { env := env 13 [(52, S_slices_ContainsFunc_Clue__i_IsPuzzle_c1)] [], body := bodyOf Tryd.f32, res := [.tmp 2], ins := [.ro kPuzzle], out := [(kbool, true)], T := Bool, fin := fun r => r.1.1, inj := fun t => ((t, ()), ((), ())), pts := [], fuel := 400, dr := noDr }
noncomputable def i_IsPuzzle (p0_Clues : List (Int × Int × Int)) : Bool :=
  bif decide ((↑(List.length p0_Clues) : Int) ≤ 6) then !slices_ContainsFunc_Clue__i_IsPuzzle_c1 p0_Clues else false
theorem i_IsPuzzle_e (p0_Clues : List (Int × Int × Int)) : c_i_IsPuzzle.start c_i_IsPuzzle.L (p0_Clues, ()) = some (i_IsPuzzle p0_Clues) := by
  refine Eq.trans (b := (bif decide ((↑(List.length p0_Clues) : Int) ≤ 6) then some !slices_ContainsFunc_Clue__i_IsPuzzle_c1 p0_Clues else some false : Option Bool)) (by kernel_rfl) ?_
  unfold i_IsPuzzle
  repeat (first | rfl | apply condS)
theorem IsClue_eq (a b c : Int) : i_IsClue a b c = s_pzClue a b c := by
  unfold i_IsClue s_pzClue i_within s_l1In
  have e : decide (c ≤ 1) = decide (c < 2) := by rw [decide_eq_decide]; omega
  rw [e]
  simp only [Bool.cond_eq_ite, ge_iff_le]
  grind
theorem IsPuzzle_eq (l : List (Int × Int × Int)) : i_IsPuzzle l = s_pzGood_n l := by
  unfold i_IsPuzzle s_pzGood_n slices_ContainsFunc_Clue__i_IsPuzzle_c1 slices_IndexFunc_Clue__i_IsPuzzle_c1_n
  rw [idxF_any]
  by_cases h : (l.length : Int) ≤ 6
  · have h' : ¬ ((l.length : Int) > 6) := by omega
    simp only [h, h', decide_true, decide_false, cond_true, cond_false, i_IsPuzzle_c1, IsClue_eq]
    cases l.any _ <;> rfl
  · have h' : ((l.length : Int) > 6) := by omega
    simp [h, h']
noncomputable def F_i_IsPuzzle : Ins c_i_IsPuzzle.ins → Bool := fun x => i_IsPuzzle x.1
noncomputable def S_i_IsPuzzle : FSpec := mkT c_i_IsPuzzle.env.pre c_i_IsPuzzle.ins c_i_IsPuzzle.out c_i_IsPuzzle.inj F_i_IsPuzzle
theorem h_i_IsPuzzle : Cert Tryd.prog 32 S_i_IsPuzzle := FnCx.certT (c := c_i_IsPuzzle) F_i_IsPuzzle (tyOk _ _ _) (spOk ⟨h_slices_ContainsFunc_Clue__i_IsPuzzle_c1, fun _ _ h => h, trivial⟩) (fun _ _ _ _ _ hs => noDr_ok) Tryd.func32 rfl rfl Tryd.ntmps32 (by kernel_rfl) rfl rfl (fun _ => rfl) trivial (fun x => .inl ⟨c_i_IsPuzzle.start () x, fun _ => rfl⟩) (fun x hb => by
  obtain ⟨p0_Clues, _⟩ := x
  exact i_IsPuzzle_e p0_Clues)
/-! strconv.Itoa -/
noncomputable def strconv_Itoa (n : Int) : Option ByteArray := itoaF n
noncomputable def F_strconv_Itoa : Ins [.ro kint] → Option ByteArray := fun x => strconv_Itoa x.1
noncomputable def S_strconv_Itoa : FSpec := mkF (T := ByteArray) textPre [.ro kint] [(.str, true)] (fun t => ((t, ()), ((), ()))) F_strconv_Itoa
theorem h_strconv_Itoa : Cert Tryd.prog 49 S_strconv_Itoa := itoa_cert litoa rfl ⟨_, Tryd.func49, rfl, by kernel_rfl⟩ (by simp [textL])
/-! strings.Join -/
theorem xjoin : Builder.Extra Tryd.prog ljoin_ren where
  sizeBuilder := by kernel_rfl
  liesBuilder := by kernel_rfl
  t5 := Tryd.underlying5
  a5 := Tryd.isAgg5
  z5 := Tryd.sizeOf5
  v5 := Tryd.zeroValue5
  infoByte := by kernel_rfl
  cellsByte := by kernel_rfl
  sizeByte := by kernel_rfl
  neB5 := by decide
noncomputable def strings_Join (xs : List ByteArray) (s : ByteArray) : Option ByteArray := joinF xs s
noncomputable def F_strings_Join : Ins [.ro kSstring, .ro kstring] → Option ByteArray := fun x => strings_Join x.1 x.2.1
noncomputable def S_strings_Join : FSpec := mkF (T := ByteArray) textPre [.ro kSstring, .ro kstring] [(.str, true)] (fun t => ((t, ()), ((), (), ()))) F_strings_Join
theorem h_strings_Join : Cert Tryd.prog 33 S_strings_Join := join_cert rfl ljoin xjoin rfl ⟨_, Tryd.func33, rfl, by kernel_rfl⟩
/-! impl.joined -/
noncomputable def c_i_joined : FnCx := { env := env 24 [(49, S_strconv_Itoa), (33, S_strings_Join)] [], body := bodyOf Tryd.f27, res := [.tmp 4], ins := [.ro kSint, .ro kstring], out := [(kstring, true)], T := ByteArray, fin := fun r => r.1.1, inj := fun t => ((t, ()), ((), (), ())), pts := [([.inLoop [1, 1, 0, 1, 0, 0], .inBlock 0, .code [1, 1, 1]], Shape.mk [Bs.row kstring 9 true, Bs.row kint 3 false] [(1, Ss.one (Cs.sc kstring)), (5, Ss.one (Cs.sl 0)), (9, Ss.one (Cs.sl 1)), (10, Ss.one (Cs.sc kint)), (11, Ss.one (Cs.sc kint))] [Ss.one (Cs.any), Ss.one (Cs.any)])], fuel := 400, dr := noDr }
noncomputable def i_joined_t1 (g1 : List (ByteArray) → List (Int) → ByteArray → Int → Int → Option (ByteArray)) (r0 : List (ByteArray)) (r1 : List (Int)) (between1 : ByteArray) (s10 : Int) (s11 : Int) : Option ByteArray :=
  bif decide (s11 < s10) then
    bif decide (0 ≤ s11) then
      bif decide (s11 < (↑(List.length r1) : Int)) then
        Option.bind (strconv_Itoa (rdk kint r1 s11)) fun r =>
          bif Nat.ble (List.length r0 + 1) 4294967296 then g1 (r0 ++ [r]) r1 between1 s10 (IntKind.wrap IntKind.i64 (s11 + 1)) else none
      else none
    else none
  else Option.bind (strings_Join r0 between1) fun r => some r
noncomputable def i_joined_t0 (g1 : List (ByteArray) → List (Int) → ByteArray → Int → Int → Option (ByteArray)) (l0 : List Int) (between1 : ByteArray) : Option ByteArray :=
  g1 [] l0 between1 (↑(List.length l0) : Int) 0
theorem i_joined_ts : Tails c_i_joined.pts c_i_joined.round :=
  ⟨fun s => by
    obtain ⟨⟨r0, r1, _⟩, ⟨between1, _, _, s10, s11, _⟩, ⟨_, _, _⟩⟩ := s
    refine Tail.eq (Y := fun g => i_joined_t1 (fun r0 r1 between1 s10 s11 => g.1 ((r0, r1, ()), (between1, (), (), s10, s11, ()), ((), (), ()))) r0 r1 between1 s10 s11) ?_ (fun g => by kernel_rfl)
    simp only [i_joined_t1]; repeat (first | exact Tail.const _ | exact Tail.here _ | exact Tail.there (Tail.here _) | exact Tail.there (Tail.there (Tail.here _)) | exact Tail.there (Tail.there (Tail.there (Tail.here _))) | exact Tail.there (Tail.there (Tail.there (Tail.there (Tail.here _)))) | exact Tail.there (Tail.there (Tail.there (Tail.there (Tail.there (Tail.here _))))) | apply Tail.cond | (apply Tail.bind; intro _)), trivial⟩
theorem i_joined_hs : ∀ x, Tail c_i_joined.pts (fun g => c_i_joined.start g x) := fun x => by
    obtain ⟨l0, between1, _⟩ := x
    refine Tail.eq (Y := fun g => i_joined_t0 (fun r0 r1 between1 s10 s11 => g.1 ((r0, r1, ()), (between1, (), (), s10, s11, ()), ((), (), ()))) l0 between1) ?_ (fun g => by kernel_rfl)
    simp only [i_joined_t0]; repeat (first | exact Tail.const _ | exact Tail.here _ | exact Tail.there (Tail.here _) | exact Tail.there (Tail.there (Tail.here _)) | exact Tail.there (Tail.there (Tail.there (Tail.here _))) | exact Tail.there (Tail.there (Tail.there (Tail.there (Tail.here _)))) | exact Tail.there (Tail.there (Tail.there (Tail.there (Tail.there (Tail.here _))))) | apply Tail.cond | (apply Tail.bind; intro _))
noncomputable def i_joined_L1 (r0 : List (ByteArray)) (r1 : List (Int)) (between1 : ByteArray) (s10 : Int) (s11 : Int) : Option ByteArray := c_i_joined.L.1 ((r0, r1, ()), (between1, (), (), s10, s11, ()), ((), (), ()))
theorem i_joined_u1 (r0 : List (ByteArray)) (r1 : List (Int)) (between1 : ByteArray) (s10 : Int) (s11 : Int) : i_joined_L1 r0 r1 between1 s10 s11 = i_joined_t1 i_joined_L1 r0 r1 between1 s10 s11 :=
  (congrArg (fun g => g.1 ((r0, r1, ()), (between1, (), (), s10, s11, ()), ((), (), ()))) (FnCx.L_eq i_joined_ts)).trans (by kernel_rfl)
noncomputable def i_joined (l0 : List Int) (between1 : ByteArray) : Option ByteArray := i_joined_t0 i_joined_L1 l0 between1
theorem i_joined_e (l0 : List Int) (between1 : ByteArray) : c_i_joined.start c_i_joined.L (l0, between1, ()) = i_joined l0 between1 := by kernel_rfl
noncomputable def F_i_joined : Ins c_i_joined.ins → Option ByteArray := fun x => i_joined x.1 x.2.1
noncomputable def S_i_joined : FSpec := mkF c_i_joined.env.pre c_i_joined.ins c_i_joined.out c_i_joined.inj F_i_joined
theorem h_i_joined : Cert Tryd.prog 27 S_i_joined := FnCx.certF (c := c_i_joined) F_i_joined (tyOk _ _ _) (spOk ⟨h_strconv_Itoa, fun _ _ h => h, ⟨h_strings_Join, fun _ _ h => h, trivial⟩⟩) (fun _ _ _ _ _ hs => noDr_ok) Tryd.func27 rfl rfl Tryd.ntmps27 (by kernel_rfl) rfl rfl (fun _ => rfl) i_joined_ts i_joined_hs (fun x t hb ht => by
  obtain ⟨l0, between1, _⟩ := x
  exact (i_joined_e l0 between1).trans ht)
/-! impl.PuzzleText -/
noncomputable def c_i_PuzzleText : FnCx := { env := env 32 [(32, S_i_IsPuzzle), (27, S_i_joined), (33, S_strings_Join)] [], body := bodyOf Tryd.f14, res := [.tmp 2, .tmp 3], ins := [.ro kPuzzle], out := [(kstring, true), (kbool, true)], T := ByteArray × Bool, fin := fun r => (r.1.1, r.1.2.1), inj := fun t => ((t.1, t.2, ()), ((), ())), pts := [([.inLoop [1, 1, 1, 0, 1, 0, 0], .inBlock 0, .code [1, 1, 1, 1]], Shape.mk [Bs.row kstring 9 true, Bs.row kwClue 54 false] [(4, Ss.one (Cs.sl 0)), (12, Ss.one (Cs.sl 1)), (13, Ss.one (Cs.sc kint)), (14, Ss.one (Cs.sc kint))] [Ss.one (Cs.any)])], fuel := 400, dr := noDr }
noncomputable def i_PuzzleText_t1 (g1 : List (ByteArray) → List (Int × (Int × Int)) → Int → Int → Option (ByteArray × Bool)) (r0 : List (ByteArray)) (r1 : List (Int × (Int × Int))) (s13 : Int) (s14 : Int) : Option (ByteArray × Bool) :=
  bif decide (s14 < s13) then
    bif decide (0 ≤ s14) then
      bif decide (s14 < (↑(List.length r1) : Int)) then
        Option.bind
          (i_joined
            [Prod.fst (rdk kwClue r1 s14),
              Prod.fst (Prod.snd (rdk kwClue r1 s14)),
              Prod.snd (Prod.snd (rdk kwClue r1 s14))]
            { data := #[46] })
          fun r => bif Nat.ble (List.length r0 + 1) 4294967296 then g1 (r0 ++ [r]) r1 s13 (IntKind.wrap IntKind.i64 (s14 + 1)) else none
      else none
    else none
  else Option.bind (strings_Join r0 { data := #[44] }) fun r => some (r, true)
noncomputable def i_PuzzleText_t0 (g1 : List (ByteArray) → List (Int × (Int × Int)) → Int → Int → Option (ByteArray × Bool)) (p0_Clues : List (Int × Int × Int)) : Option (ByteArray × Bool) :=
  bif !i_IsPuzzle p0_Clues then some ({ data := #[] }, false) else g1 [] p0_Clues (↑(List.length p0_Clues) : Int) 0
theorem i_PuzzleText_ts : Tails c_i_PuzzleText.pts c_i_PuzzleText.round :=
  ⟨fun s => by
    obtain ⟨⟨r0, r1, _⟩, ⟨_, _, s13, s14, _⟩, ⟨_, _⟩⟩ := s
    refine Tail.eq (Y := fun g => i_PuzzleText_t1 (fun r0 r1 s13 s14 => g.1 ((r0, r1, ()), ((), (), s13, s14, ()), ((), ()))) r0 r1 s13 s14) ?_ (fun g => by kernel_rfl)
    simp only [i_PuzzleText_t1]; repeat (first | exact Tail.const _ | exact Tail.here _ | exact Tail.there (Tail.here _) | exact Tail.there (Tail.there (Tail.here _)) | exact Tail.there (Tail.there (Tail.there (Tail.here _))) | exact Tail.there (Tail.there (Tail.there (Tail.there (Tail.here _)))) | exact Tail.there (Tail.there (Tail.there (Tail.there (Tail.there (Tail.here _))))) | apply Tail.cond | (apply Tail.bind; intro _)), trivial⟩
theorem i_PuzzleText_hs : ∀ x, Tail c_i_PuzzleText.pts (fun g => c_i_PuzzleText.start g x) := fun x => by
    obtain ⟨p0_Clues, _⟩ := x
    refine Tail.eq (Y := fun g => i_PuzzleText_t0 (fun r0 r1 s13 s14 => g.1 ((r0, r1, ()), ((), (), s13, s14, ()), ((), ()))) p0_Clues) ?_ (fun g => by kernel_rfl)
    simp only [i_PuzzleText_t0]; repeat (first | exact Tail.const _ | exact Tail.here _ | exact Tail.there (Tail.here _) | exact Tail.there (Tail.there (Tail.here _)) | exact Tail.there (Tail.there (Tail.there (Tail.here _))) | exact Tail.there (Tail.there (Tail.there (Tail.there (Tail.here _)))) | exact Tail.there (Tail.there (Tail.there (Tail.there (Tail.there (Tail.here _))))) | apply Tail.cond | (apply Tail.bind; intro _))
noncomputable def i_PuzzleText_L1 (r0 : List (ByteArray)) (r1 : List (Int × (Int × Int))) (s13 : Int) (s14 : Int) : Option (ByteArray × Bool) := c_i_PuzzleText.L.1 ((r0, r1, ()), ((), (), s13, s14, ()), ((), ()))
theorem i_PuzzleText_u1 (r0 : List (ByteArray)) (r1 : List (Int × (Int × Int))) (s13 : Int) (s14 : Int) : i_PuzzleText_L1 r0 r1 s13 s14 = i_PuzzleText_t1 i_PuzzleText_L1 r0 r1 s13 s14 :=
  (congrArg (fun g => g.1 ((r0, r1, ()), ((), (), s13, s14, ()), ((), ()))) (FnCx.L_eq i_PuzzleText_ts)).trans (by kernel_rfl)
noncomputable def i_PuzzleText (p0_Clues : List (Int × Int × Int)) : Option (ByteArray × Bool) := i_PuzzleText_t0 i_PuzzleText_L1 p0_Clues
theorem i_PuzzleText_e (p0_Clues : List (Int × Int × Int)) : c_i_PuzzleText.start c_i_PuzzleText.L (p0_Clues, ()) = i_PuzzleText p0_Clues := by kernel_rfl
noncomputable def F_i_PuzzleText : Ins c_i_PuzzleText.ins → Option (ByteArray × Bool) := fun x => i_PuzzleText x.1
noncomputable def S_i_PuzzleText : FSpec := mkF c_i_PuzzleText.env.pre c_i_PuzzleText.ins c_i_PuzzleText.out c_i_PuzzleText.inj F_i_PuzzleText
theorem h_i_PuzzleText : Cert Tryd.prog 14 S_i_PuzzleText := FnCx.certF (c := c_i_PuzzleText) F_i_PuzzleText (tyOk _ _ _) (spOk ⟨h_i_IsPuzzle, fun _ _ h => h, ⟨h_i_joined, fun _ _ h => h, ⟨h_strings_Join, fun _ _ h => h, trivial⟩⟩⟩) (fun _ _ _ _ _ hs => noDr_ok) Tryd.func14 rfl rfl Tryd.ntmps14 (by kernel_rfl) rfl rfl (fun _ => rfl) i_PuzzleText_ts i_PuzzleText_hs (fun x t hb ht => by
  obtain ⟨p0_Clues, _⟩ := x
  exact (i_PuzzleText_e p0_Clues).trans ht)
/-! laws.eqClue -/
noncomputable def c_w_eqClue : FnCx := { env := env 20 [] [], body := bodyOf Tryd.f58, res := [.tmp 4], ins := [.ro kClue, .ro kClue], out := [(kbool, true)], T := Bool, fin := fun r => r.1.1, inj := fun t => ((t, ()), ((), (), ())), pts := [], fuel := 400, dr := noDr }
noncomputable def w_eqClue (a0_Kind : Int) (a0_A : Int) (a0_B : Int) (b1_Kind : Int) (b1_A : Int) (b1_B : Int) : Bool :=
  bif a0_Kind != b1_Kind then false else bif a0_A != b1_A then false else bif a0_B != b1_B then false else true
theorem w_eqClue_e (a0_Kind : Int) (a0_A : Int) (a0_B : Int) (b1_Kind : Int) (b1_A : Int) (b1_B : Int) : c_w_eqClue.start c_w_eqClue.L ((a0_Kind, a0_A, a0_B), (b1_Kind, b1_A, b1_B), ()) = some (w_eqClue a0_Kind a0_A a0_B b1_Kind b1_A b1_B) := by
  refine Eq.trans (b := (bif a0_Kind != b1_Kind then some false else bif a0_A != b1_A then some false else bif a0_B != b1_B then some false else some true : Option Bool)) (by kernel_rfl) ?_
  unfold w_eqClue
  repeat (first | rfl | apply condS)
noncomputable def F_w_eqClue : Ins c_w_eqClue.ins → Bool := fun x => w_eqClue x.1.1 x.1.2.1 x.1.2.2 x.2.1.1 x.2.1.2.1 x.2.1.2.2
noncomputable def S_w_eqClue : FSpec := mkT c_w_eqClue.env.pre c_w_eqClue.ins c_w_eqClue.out c_w_eqClue.inj F_w_eqClue
theorem h_w_eqClue : Cert Tryd.prog 58 S_w_eqClue := FnCx.certT (c := c_w_eqClue) F_w_eqClue (tyOk _ _ _) (spOk trivial) (fun _ _ _ _ _ hs => noDr_ok) Tryd.func58 rfl rfl Tryd.ntmps58 (by kernel_rfl) rfl rfl (fun _ => rfl) trivial (fun x => .inl ⟨c_w_eqClue.start () x, fun _ => rfl⟩) (fun x hb => by
  obtain ⟨⟨a0_Kind, a0_A, a0_B⟩, ⟨b1_Kind, b1_A, b1_B⟩, _⟩ := x
  exact w_eqClue_e a0_Kind a0_A a0_B b1_Kind b1_A b1_B)
/-! laws.eqClueS -/
noncomputable def c_w_eqClueS : FnCx := { env := env 27 [(58, S_w_eqClue)] [], body := bodyOf Tryd.f34, res := [.tmp 4], ins := [.ro kSClue, .ro kSClue], out := [(kbool, true)], T := Bool, fin := fun r => r.1.1, inj := fun t => ((t, ()), ((), (), ())), pts := [([.inLoop [1, 1, 0, 1, 0, 0], .inBlock 0, .code [1, 1, 1]], Shape.mk [Bs.row kwClue 54 false, Bs.row kwClue 54 false] [(0, Ss.one (Cs.sl 0)), (1, Ss.one (Cs.sl 1)), (5, Ss.one (Cs.sc kint))] [Ss.one (Cs.any), Ss.one (Cs.any)])], fuel := 400, dr := evDr (env 27 [(58, S_w_eqClue)] []) }
noncomputable def w_eqClueS_t1 (g1 : List (Int × (Int × Int)) → List (Int × (Int × Int)) → Int → Option (Bool)) (r0 : List (Int × (Int × Int))) (r1 : List (Int × (Int × Int))) (i5 : Int) : Option Bool :=
  bif decide (i5 < (↑(List.length r0) : Int)) then
    bif decide (0 ≤ i5) then
      bif decide (i5 < (↑(List.length r0) : Int)) then
        bif decide (0 ≤ i5) then
          bif decide (i5 < (↑(List.length r1) : Int)) then
            bif
                !w_eqClue (Prod.fst (rdk kwClue r0 i5))
                    (Prod.fst (Prod.snd (rdk kwClue r0 i5)))
                    (Prod.snd (Prod.snd (rdk kwClue r0 i5)))
                    (Prod.fst (rdk kwClue r1 i5))
                    (Prod.fst (Prod.snd (rdk kwClue r1 i5)))
                    (Prod.snd (Prod.snd (rdk kwClue r1 i5))) then
              some false
            else g1 r0 r1 (IntKind.wrap IntKind.i64 (i5 + 1))
          else none
        else none
      else none
    else none
  else some true
noncomputable def w_eqClueS_t0 (g1 : List (Int × (Int × Int)) → List (Int × (Int × Int)) → Int → Option (Bool)) (a0 : List (Int × Int × Int)) (b1 : List (Int × Int × Int)) : Option Bool :=
  bif (↑(List.length a0) : Int) != (↑(List.length b1) : Int) then some false else g1 a0 b1 0
theorem w_eqClueS_ts : Tails c_w_eqClueS.pts c_w_eqClueS.round :=
  ⟨fun s => by
    obtain ⟨⟨r0, r1, _⟩, ⟨_, _, i5, _⟩, ⟨_, _, _⟩⟩ := s
    refine Tail.eq (Y := fun g => w_eqClueS_t1 (fun r0 r1 i5 => g.1 ((r0, r1, ()), ((), (), i5, ()), ((), (), ()))) r0 r1 i5) ?_ (fun g => by kernel_rfl)
    simp only [w_eqClueS_t1]; repeat (first | exact Tail.const _ | exact Tail.here _ | exact Tail.there (Tail.here _) | exact Tail.there (Tail.there (Tail.here _)) | exact Tail.there (Tail.there (Tail.there (Tail.here _))) | exact Tail.there (Tail.there (Tail.there (Tail.there (Tail.here _)))) | exact Tail.there (Tail.there (Tail.there (Tail.there (Tail.there (Tail.here _))))) | apply Tail.cond | (apply Tail.bind; intro _)), trivial⟩
theorem w_eqClueS_hs : ∀ x, Tail c_w_eqClueS.pts (fun g => c_w_eqClueS.start g x) := fun x => by
    obtain ⟨a0, b1, _⟩ := x
    refine Tail.eq (Y := fun g => w_eqClueS_t0 (fun r0 r1 i5 => g.1 ((r0, r1, ()), ((), (), i5, ()), ((), (), ()))) a0 b1) ?_ (fun g => by kernel_rfl)
    simp only [w_eqClueS_t0]; repeat (first | exact Tail.const _ | exact Tail.here _ | exact Tail.there (Tail.here _) | exact Tail.there (Tail.there (Tail.here _)) | exact Tail.there (Tail.there (Tail.there (Tail.here _))) | exact Tail.there (Tail.there (Tail.there (Tail.there (Tail.here _)))) | exact Tail.there (Tail.there (Tail.there (Tail.there (Tail.there (Tail.here _))))) | apply Tail.cond | (apply Tail.bind; intro _))
noncomputable def w_eqClueS_L1 (r0 : List (Int × (Int × Int))) (r1 : List (Int × (Int × Int))) (i5 : Int) : Option Bool := c_w_eqClueS.L.1 ((r0, r1, ()), ((), (), i5, ()), ((), (), ()))
theorem w_eqClueS_u1 (r0 : List (Int × (Int × Int))) (r1 : List (Int × (Int × Int))) (i5 : Int) : w_eqClueS_L1 r0 r1 i5 = w_eqClueS_t1 w_eqClueS_L1 r0 r1 i5 :=
  (congrArg (fun g => g.1 ((r0, r1, ()), ((), (), i5, ()), ((), (), ()))) (FnCx.L_eq w_eqClueS_ts)).trans (by kernel_rfl)
noncomputable def w_eqClueS (a0 : List (Int × Int × Int)) (b1 : List (Int × Int × Int)) : Option Bool := w_eqClueS_t0 w_eqClueS_L1 a0 b1
theorem w_eqClueS_e (a0 : List (Int × Int × Int)) (b1 : List (Int × Int × Int)) : c_w_eqClueS.start c_w_eqClueS.L (a0, b1, ()) = w_eqClueS a0 b1 := by kernel_rfl
-- NICE tot
noncomputable def w_eqClueS_n (a b : List (Int × Int × Int)) : Bool := decide (a = b)
theorem w_eqClue_iff (a b : Int × Int × Int) : w_eqClue a.1 a.2.1 a.2.2 b.1 b.2.1 b.2.2 = decide (a = b) := by
  obtain ⟨a1, a2, a3⟩ := a
  obtain ⟨b1, b2, b3⟩ := b
  unfold w_eqClue
  by_cases h1 : a1 = b1 <;> by_cases h2 : a2 = b2 <;> by_cases h3 : a3 = b3 <;> simp [h1, h2, h3]
theorem w_eqClueS_ok (a b : List (Int × Int × Int)) (hb : BdI c_w_eqClueS.ins (a, b, ())) : w_eqClueS a b = some (w_eqClueS_n a b) := by
  unfold w_eqClueS w_eqClueS_t0 w_eqClueS_n
  by_cases hl : a.length = b.length
  · have e := loop_eq (L := fun i => w_eqClueS_L1 a b (i : Int)) hl (fun i h h' => by
        simp only [w_eqClueS_u1 a b i, w_eqClueS_t1, rdk_get (k := kClue) h, rdk_get (k := kClue) h', wrapS h hb.1.1, w_eqClue_iff]
        by_cases hx : a[i] = b[i] <;> simp [h, h', hx]) (by simp [w_eqClueS_u1 a b a.length, w_eqClueS_t1])
    simpa [hl] using e
  · have hab : a ≠ b := fun e => hl (by rw [e])
    have : ((a.length : Int) != (b.length : Int)) = true := by simp; omega
    rw [this]
    simp [hab]
noncomputable def F_w_eqClueS : Ins c_w_eqClueS.ins → Bool := fun x => w_eqClueS_n x.1 x.2.1
noncomputable def S_w_eqClueS : FSpec := mkT c_w_eqClueS.env.pre c_w_eqClueS.ins c_w_eqClueS.out c_w_eqClueS.inj F_w_eqClueS
theorem h_w_eqClueS : Cert Tryd.prog 34 S_w_eqClueS := FnCx.certT (c := c_w_eqClueS) F_w_eqClueS (tyOk _ _ _) (spOk ⟨h_w_eqClue, fun _ _ h => h, trivial⟩) (fun _ _ _ _ _ hs => evDr_ok (tyOk _ _ _) hs follows) Tryd.func34 rfl rfl Tryd.ntmps34 (by kernel_rfl) rfl rfl (fun _ => rfl) w_eqClueS_ts w_eqClueS_hs (fun x hb => by
  obtain ⟨a0, b1, _⟩ := x
  exact (w_eqClueS_e a0 b1).trans (w_eqClueS_ok a0 b1 hb))
/-! laws.eqPuzzle -/
noncomputable def c_w_eqPuzzle : FnCx := { env := env 11 [(34, S_w_eqClueS)] [], body := bodyOf Tryd.f15, res := [.tmp 4], ins := [.ro kPuzzle, .ro kPuzzle], out := [(kbool, true)], T := Bool, fin := fun r => r.1.1, inj := fun t => ((t, ()), ((), (), ())), pts := [], fuel := 400, dr := noDr }
noncomputable def w_eqPuzzle (a0_Clues : List (Int × Int × Int)) (b1_Clues : List (Int × Int × Int)) : Bool :=
  bif !w_eqClueS_n a0_Clues b1_Clues then false else true
theorem w_eqPuzzle_e (a0_Clues : List (Int × Int × Int)) (b1_Clues : List (Int × Int × Int)) : c_w_eqPuzzle.start c_w_eqPuzzle.L (a0_Clues, b1_Clues, ()) = some (w_eqPuzzle a0_Clues b1_Clues) := by
  refine Eq.trans (b := (bif !w_eqClueS_n a0_Clues b1_Clues then some false else some true : Option Bool)) (by kernel_rfl) ?_
  unfold w_eqPuzzle
  repeat (first | rfl | apply condS)
theorem szClueS_le {l : List (Int × Int × Int)} (h : l.length ≤ maxLen) (hs : decide (w_szClueS l 1048576 < 0) = false) : l.length ≤ 1048576 := by
  rw [maxLen_eq] at h
  unfold w_szClueS at hs
  rw [wrap64 (by omega) (by omega)] at hs
  by_cases hh : (1048576 - (l.length : Int)) < 0
  · simp [hh] at hs
  · omega
theorem szPuzzle_le {y : List (Int × Int × Int)} (h : y.length ≤ maxLen) (hs : decide (w_szPuzzle y 1048576 < 0) = false) : y.length ≤ 1048576 :=
  szClueS_le (l := y) h (by
      unfold w_szPuzzle at hs
      cases h : decide (w_szClueS y 1048576 < 0)
      · rfl
      · rw [h] at hs; simp at hs)
theorem toPuzzle_eq {y : List (Int × Int × Int)} (hl : y.length ≤ 1048576) : w_toPuzzle y = some y := by
  have : decide (y.length ≤ 4294967296) = true := decide_eq_true (by omega)
  simp [w_toPuzzle, w_toClueS_n, this]
theorem eqPuzzle_eq (a b : List (Int × Int × Int)) : w_eqPuzzle a b = decide (a = b) := by
  unfold w_eqPuzzle w_eqClueS_n
  cases decide (a = b) <;> rfl
noncomputable def F_w_eqPuzzle : Ins c_w_eqPuzzle.ins → Bool := fun x => w_eqPuzzle x.1 x.2.1
noncomputable def S_w_eqPuzzle : FSpec := mkT c_w_eqPuzzle.env.pre c_w_eqPuzzle.ins c_w_eqPuzzle.out c_w_eqPuzzle.inj F_w_eqPuzzle
theorem h_w_eqPuzzle : Cert Tryd.prog 15 S_w_eqPuzzle := FnCx.certT (c := c_w_eqPuzzle) F_w_eqPuzzle (tyOk _ _ _) (spOk ⟨h_w_eqClueS, fun _ _ h => h, trivial⟩) (fun _ _ _ _ _ hs => noDr_ok) Tryd.func15 rfl rfl Tryd.ntmps15 (by kernel_rfl) rfl rfl (fun _ => rfl) trivial (fun x => .inl ⟨c_w_eqPuzzle.start () x, fun _ => rfl⟩) (fun x hb => by
  obtain ⟨a0_Clues, b1_Clues, _⟩ := x
  exact w_eqPuzzle_e a0_Clues b1_Clues)
/-! laws.FnExactPuzzleText -/
noncomputable def c_w_FnExactPuzzleText : FnCx := { env := env 40 [(11, S_w_szPuzzle), (13, S_w_toPuzzle), (12, S_s_PuzzleText), (14, S_i_PuzzleText), (15, S_w_eqPuzzle)] [], body := bodyOf Tryd.f4, res := [.tmp 2], ins := [.ro kwPuzzle], out := [(kbool, true)], T := Bool, fin := fun r => r.1.1, inj := fun t => ((t, ()), ((), ())), pts := [], fuel := 400, dr := evDr (env 40 [(11, S_w_szPuzzle), (13, S_w_toPuzzle), (12, S_s_PuzzleText), (14, S_i_PuzzleText), (15, S_w_eqPuzzle)] []) }
noncomputable def w_FnExactPuzzleText (aP0_Clues : List (Int × Int × Int)) : Option Bool :=
  bif decide (w_szPuzzle aP0_Clues 1048576 < 0) then some true
  else
    Option.bind (w_toPuzzle aP0_Clues) fun r =>
      Option.bind (s_PuzzleText r) fun r =>
        Option.bind (w_toPuzzle aP0_Clues) fun r_1 =>
          Option.bind (i_PuzzleText r_1) fun r_2 =>
            bif !ByteArray.toList (Prod.fst r_2) == ByteArray.toList (Prod.fst r) then some false
            else
              bif !Prod.snd r_2 == Prod.snd r then some false
              else Option.bind (w_toPuzzle aP0_Clues) fun r => bif !w_eqPuzzle r_1 r then some false else some true
theorem w_FnExactPuzzleText_e (aP0_Clues : List (Int × Int × Int)) : c_w_FnExactPuzzleText.start c_w_FnExactPuzzleText.L (aP0_Clues, ()) = w_FnExactPuzzleText aP0_Clues := by kernel_rfl
noncomputable def F_w_FnExactPuzzleText : Ins c_w_FnExactPuzzleText.ins → Option Bool := fun x => w_FnExactPuzzleText x.1
noncomputable def S_w_FnExactPuzzleText : FSpec := mkF c_w_FnExactPuzzleText.env.pre c_w_FnExactPuzzleText.ins c_w_FnExactPuzzleText.out c_w_FnExactPuzzleText.inj F_w_FnExactPuzzleText
theorem h_w_FnExactPuzzleText : Cert Tryd.prog 4 S_w_FnExactPuzzleText := FnCx.certF (c := c_w_FnExactPuzzleText) F_w_FnExactPuzzleText (tyOk _ _ _) (spOk ⟨h_w_szPuzzle, fun _ _ h => h, ⟨h_w_toPuzzle, fun _ _ h => h, ⟨h_s_PuzzleText, fun _ _ h => h, ⟨h_i_PuzzleText, fun _ _ h => h, ⟨h_w_eqPuzzle, fun _ _ h => h, trivial⟩⟩⟩⟩⟩) (fun _ _ _ _ _ hs => evDr_ok (tyOk _ _ _) hs follows) Tryd.func4 rfl rfl Tryd.ntmps4 (by kernel_rfl) rfl rfl (fun _ => rfl) trivial (fun x => .inl ⟨c_w_FnExactPuzzleText.start () x, fun _ => rfl⟩) (fun x t hb ht => by
  obtain ⟨aP0_Clues, _⟩ := x
  exact (w_FnExactPuzzleText_e aP0_Clues).trans ht)
end Go.Proofs.YtlffgllmjjkfdaaDoor.V
