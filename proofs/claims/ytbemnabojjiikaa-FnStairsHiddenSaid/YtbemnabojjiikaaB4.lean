/- Functions of the program, as plain functions. No condition. -/
import Derived.Test.YtbemnabojjiikaaB3
set_option linter.unusedVariables false
set_option linter.unusedSimpArgs false
set_option maxRecDepth 100000
namespace Go.Proofs.Ytbemnabojjiikaa.V
open Go Go.Ev Go.Proofs
/-! laws.szClueS -/
noncomputable def c_w_szClueS : FnCx := { env := env 12 [] [], body := bodyOf Try.f85, res := [.tmp 4], ins := [.ro kSwClue, .ro kint], out := [(kint, true)], T := Int, fin := fun r => r.1.1, inj := fun t => ((t, ()), ((), (), ())), pts := [], fuel := 400, dr := noDr }
noncomputable def w_szClueS (a0 : List (Int × Int × Int)) (left1 : Int) : Int :=
  bif decide (IntKind.wrap IntKind.i64 (left1 - (↑(List.length a0) : Int)) < 0) then -1 else IntKind.wrap IntKind.i64 (left1 - (↑(List.length a0) : Int))
theorem w_szClueS_e (a0 : List (Int × Int × Int)) (left1 : Int) : c_w_szClueS.start c_w_szClueS.L (a0, left1, ()) = some (w_szClueS a0 left1) := by
  refine Eq.trans (b := (bif decide (IntKind.wrap IntKind.i64 (left1 - (↑(List.length a0) : Int)) < 0) then some (-1) else some (IntKind.wrap IntKind.i64 (left1 - (↑(List.length a0) : Int))) : Option Int)) (by kernel_rfl) ?_
  unfold w_szClueS
  repeat (first | rfl | apply condS)
noncomputable def F_w_szClueS : Ins c_w_szClueS.ins → Int := fun x => w_szClueS x.1 x.2.1
noncomputable def S_w_szClueS : FSpec := mkT c_w_szClueS.env.pre c_w_szClueS.ins c_w_szClueS.out c_w_szClueS.inj F_w_szClueS
theorem h_w_szClueS : Cert Try.prog 85 S_w_szClueS := FnCx.certT (c := c_w_szClueS) F_w_szClueS (tyOk _ _ _) (spOk trivial) (fun _ _ _ _ _ hs => noDr_ok) Try.func85 rfl rfl Try.ntmps85 (by kernel_rfl) rfl rfl (fun _ => rfl) trivial (fun x => .inl ⟨c_w_szClueS.start () x, fun _ => rfl⟩) (fun x hb => by
  obtain ⟨a0, left1, _⟩ := x
  exact w_szClueS_e a0 left1)
/-! laws.szPuzzle -/
noncomputable def c_w_szPuzzle : FnCx := { env := env 12 [(85, S_w_szClueS)] [], body := bodyOf Try.f24, res := [.tmp 4], ins := [.ro kwPuzzle, .ro kint], out := [(kint, true)], T := Int, fin := fun r => r.1.1, inj := fun t => ((t, ()), ((), (), ())), pts := [], fuel := 400, dr := noDr }
noncomputable def w_szPuzzle (a0_Clues : List (Int × Int × Int)) (left1 : Int) : Int :=
  bif decide (w_szClueS a0_Clues left1 < 0) then -1 else w_szClueS a0_Clues left1
theorem w_szPuzzle_e (a0_Clues : List (Int × Int × Int)) (left1 : Int) : c_w_szPuzzle.start c_w_szPuzzle.L (a0_Clues, left1, ()) = some (w_szPuzzle a0_Clues left1) := by
  refine Eq.trans (b := (bif decide (w_szClueS a0_Clues left1 < 0) then some (-1) else some (w_szClueS a0_Clues left1) : Option Int)) (by kernel_rfl) ?_
  unfold w_szPuzzle
  repeat (first | rfl | apply condS)
noncomputable def F_w_szPuzzle : Ins c_w_szPuzzle.ins → Int := fun x => w_szPuzzle x.1 x.2.1
noncomputable def S_w_szPuzzle : FSpec := mkT c_w_szPuzzle.env.pre c_w_szPuzzle.ins c_w_szPuzzle.out c_w_szPuzzle.inj F_w_szPuzzle
theorem h_w_szPuzzle : Cert Try.prog 24 S_w_szPuzzle := FnCx.certT (c := c_w_szPuzzle) F_w_szPuzzle (tyOk _ _ _) (spOk ⟨h_w_szClueS, fun _ _ _ => trivial, trivial⟩) (fun _ _ _ _ _ hs => noDr_ok) Try.func24 rfl rfl Try.ntmps24 (by kernel_rfl) rfl rfl (fun _ => rfl) trivial (fun x => .inl ⟨c_w_szPuzzle.start () x, fun _ => rfl⟩) (fun x hb => by
  obtain ⟨a0_Clues, left1, _⟩ := x
  exact w_szPuzzle_e a0_Clues left1)
/-! laws.toClue -/
noncomputable def c_w_toClue : FnCx := { env := env 14 [] [], body := bodyOf Try.f121, res := [.cell 2 63], ins := [.ro kwClue], out := [(kClue, true)], T := (Int × Int × Int), fin := fun r => r.1.1, inj := fun t => ((t, ()), ((), ())), pts := [], fuel := 400, dr := noDr }
noncomputable def w_toClue (a0_Kind : Int) (a0_A : Int) (a0_B : Int) : (Int × Int × Int) :=
  (a0_Kind, a0_A, a0_B)
theorem w_toClue_e (a0_Kind : Int) (a0_A : Int) (a0_B : Int) : c_w_toClue.start c_w_toClue.L ((a0_Kind, a0_A, a0_B), ()) = some (w_toClue a0_Kind a0_A a0_B) := by kernel_rfl
noncomputable def F_w_toClue : Ins c_w_toClue.ins → (Int × Int × Int) := fun x => w_toClue x.1.1 x.1.2.1 x.1.2.2
noncomputable def S_w_toClue : FSpec := mkT c_w_toClue.env.pre c_w_toClue.ins c_w_toClue.out c_w_toClue.inj F_w_toClue
theorem h_w_toClue : Cert Try.prog 121 S_w_toClue := FnCx.certT (c := c_w_toClue) F_w_toClue (tyOk _ _ _) (spOk trivial) (fun _ _ _ _ _ hs => noDr_ok) Try.func121 rfl rfl Try.ntmps121 (by kernel_rfl) rfl rfl (fun _ => rfl) trivial (fun x => .inl ⟨c_w_toClue.start () x, fun _ => rfl⟩) (fun x hb => by
  obtain ⟨⟨a0_Kind, a0_A, a0_B⟩, _⟩ := x
  exact w_toClue_e a0_Kind a0_A a0_B)
/-! laws.toClueS -/
noncomputable def c_w_toClueS : FnCx := { env := env 23 [(121, S_w_toClue)] [], body := bodyOf Try.f88, res := [.tmp 2], ins := [.ro kSwClue], out := [(kSClue, true)], T := List (Int × Int × Int), fin := fun r => r.1.1, inj := fun t => ((t, ()), ((), ())), pts := [([.inLoop [1, 1, 0, 1, 0, 0], .inBlock 0, .code [1, 1, 1]], Shape.mk [Bs.row kClue 121 false, Bs.row kClue 63 true] [(0, Ss.one (Cs.sl 0)), (3, Ss.one (Cs.sl 1)), (4, Ss.one (Cs.sc kint))] [Ss.one (Cs.any)])], fuel := 400, dr := noDr }
noncomputable def w_toClueS_t1 (g1 : List (Int × (Int × Int)) → List (Int × (Int × Int)) → Int → Option (List (Int × Int × Int))) (r0 : List (Int × (Int × Int))) (r1 : List (Int × (Int × Int))) (i4 : Int) : Option (List (Int × Int × Int)) :=
  bif decide (i4 < (↑(List.length r0) : Int)) then
    bif decide (0 ≤ i4) then
      bif decide (i4 < (↑(List.length r0) : Int)) then
        bif decide (0 ≤ i4) then
          bif decide (i4 < (↑(List.length r1) : Int)) then
            g1 r0
              (List.set r1 (Int.toNat i4)
                (Prod.fst (rdk kClue r0 i4),
                  Prod.fst (Prod.snd (rdk kClue r0 i4)),
                  Prod.snd (Prod.snd (rdk kClue r0 i4))))
              (IntKind.wrap IntKind.i64 (i4 + 1))
          else none
        else none
      else none
    else none
  else some r1
noncomputable def w_toClueS_t0 (g1 : List (Int × (Int × Int)) → List (Int × (Int × Int)) → Int → Option (List (Int × Int × Int))) (a0 : List (Int × Int × Int)) : Option (List (Int × Int × Int)) :=
  bif (↑(List.length a0) : Int) == (↑(List.length a0) : Int) then
    bif decide ((↑(List.length a0) : Int) ≤ (↑4294967296 : Int)) then g1 a0 (List.replicate (Int.toNat (↑(List.length a0) : Int)) (Kd.zero kClue)) 0 else none
  else none
theorem w_toClueS_ts : Tails c_w_toClueS.pts c_w_toClueS.round :=
  ⟨fun s => by
    obtain ⟨⟨r0, r1, _⟩, ⟨_, _, i4, _⟩, ⟨_, _⟩⟩ := s
    refine Tail.eq (Y := fun g => w_toClueS_t1 (fun r0 r1 i4 => g.1 ((r0, r1, ()), ((), (), i4, ()), ((), ()))) r0 r1 i4) ?_ (fun g => by kernel_rfl)
    simp only [w_toClueS_t1]; repeat (first | exact Tail.const _ | exact Tail.here _ | exact Tail.there (Tail.here _) | exact Tail.there (Tail.there (Tail.here _)) | exact Tail.there (Tail.there (Tail.there (Tail.here _))) | exact Tail.there (Tail.there (Tail.there (Tail.there (Tail.here _)))) | exact Tail.there (Tail.there (Tail.there (Tail.there (Tail.there (Tail.here _))))) | apply Tail.cond | (apply Tail.bind; intro _)), trivial⟩
theorem w_toClueS_hs : ∀ x, Tail c_w_toClueS.pts (fun g => c_w_toClueS.start g x) := fun x => by
    obtain ⟨a0, _⟩ := x
    refine Tail.eq (Y := fun g => w_toClueS_t0 (fun r0 r1 i4 => g.1 ((r0, r1, ()), ((), (), i4, ()), ((), ()))) a0) ?_ (fun g => by kernel_rfl)
    simp only [w_toClueS_t0]; repeat (first | exact Tail.const _ | exact Tail.here _ | exact Tail.there (Tail.here _) | exact Tail.there (Tail.there (Tail.here _)) | exact Tail.there (Tail.there (Tail.there (Tail.here _))) | exact Tail.there (Tail.there (Tail.there (Tail.there (Tail.here _)))) | exact Tail.there (Tail.there (Tail.there (Tail.there (Tail.there (Tail.here _))))) | apply Tail.cond | (apply Tail.bind; intro _))
noncomputable def w_toClueS_L1 (r0 : List (Int × (Int × Int))) (r1 : List (Int × (Int × Int))) (i4 : Int) : Option (List (Int × Int × Int)) := c_w_toClueS.L.1 ((r0, r1, ()), ((), (), i4, ()), ((), ()))
theorem w_toClueS_u1 (r0 : List (Int × (Int × Int))) (r1 : List (Int × (Int × Int))) (i4 : Int) : w_toClueS_L1 r0 r1 i4 = w_toClueS_t1 w_toClueS_L1 r0 r1 i4 :=
  (congrArg (fun g => g.1 ((r0, r1, ()), ((), (), i4, ()), ((), ()))) (FnCx.L_eq w_toClueS_ts)).trans (by kernel_rfl)
noncomputable def w_toClueS (a0 : List (Int × Int × Int)) : Option (List (Int × Int × Int)) := w_toClueS_t0 w_toClueS_L1 a0
theorem w_toClueS_e (a0 : List (Int × Int × Int)) : c_w_toClueS.start c_w_toClueS.L (a0, ()) = w_toClueS a0 := by kernel_rfl
-- NICE opt
noncomputable def w_toClueS_n (a0 : List (Int × Int × Int)) : Option (List (Int × Int × Int)) := bif decide (a0.length ≤ 4294967296) then some a0 else none
theorem w_toClueS_ok (a0 : List (Int × Int × Int)) (hb : BdI c_w_toClueS.ins (a0, ())) (t : List (Int × Int × Int)) (ht : w_toClueS_n a0 = some t) : w_toClueS a0 = some t := by
  unfold w_toClueS_n at ht
  cases h : decide (a0.length ≤ 4294967296)
  · rw [h] at ht; cases ht
  · rw [h] at ht; cases ht
    have h := of_decide_eq_true h
    have e := loop_set (L := fun i r => w_toClueS_L1 a0 r (i : Int)) (l := a0) (f := id) (e := id)
      (fun i h r hr => by
        simp only [w_toClueS_u1 a0 r i, w_toClueS_t1, rdk_get (k := kClue) h, wrapS h hb.1.1, Int.toNat_natCast]
        simp [h, hr])
      (fun r => by simp [w_toClueS_u1 a0 r a0.length, w_toClueS_t1]) (List.replicate a0.length (Kd.zero kClue)) (by simp)
    have h' : ((a0.length : Int) ≤ 4294967296) := by omega
    simp [w_toClueS, w_toClueS_t0, h']
    simpa using e
noncomputable def F_w_toClueS : Ins c_w_toClueS.ins → Option (List (Int × Int × Int)) := fun x => w_toClueS_n x.1
noncomputable def S_w_toClueS : FSpec := mkF c_w_toClueS.env.pre c_w_toClueS.ins c_w_toClueS.out c_w_toClueS.inj F_w_toClueS
theorem h_w_toClueS : Cert Try.prog 88 S_w_toClueS := FnCx.certF (c := c_w_toClueS) F_w_toClueS (tyOk _ _ _) (spOk ⟨h_w_toClue, fun _ _ _ => trivial, trivial⟩) (fun _ _ _ _ _ hs => noDr_ok) Try.func88 rfl rfl Try.ntmps88 (by kernel_rfl) rfl rfl (fun _ => rfl) w_toClueS_ts w_toClueS_hs (fun x t hb ht => by
  obtain ⟨a0, _⟩ := x
  exact (w_toClueS_e a0).trans (w_toClueS_ok a0 hb t ht))
/-! laws.toPuzzle -/
noncomputable def c_w_toPuzzle : FnCx := { env := env 9 [(88, S_w_toClueS)] [], body := bodyOf Try.f26, res := [.cell 2 28], ins := [.ro kwPuzzle], out := [(kPuzzle, true)], T := List (Int × Int × Int), fin := fun r => r.1.1, inj := fun t => ((t, ()), ((), ())), pts := [], fuel := 400, dr := noDr }
noncomputable def w_toPuzzle (a0_Clues : List (Int × Int × Int)) : Option (List (Int × Int × Int)) :=
  Option.bind (w_toClueS_n a0_Clues) fun r => some r
theorem w_toPuzzle_e (a0_Clues : List (Int × Int × Int)) : c_w_toPuzzle.start c_w_toPuzzle.L (a0_Clues, ()) = w_toPuzzle a0_Clues := by kernel_rfl
noncomputable def F_w_toPuzzle : Ins c_w_toPuzzle.ins → Option (List (Int × Int × Int)) := fun x => w_toPuzzle x.1
noncomputable def S_w_toPuzzle : FSpec := mkF c_w_toPuzzle.env.pre c_w_toPuzzle.ins c_w_toPuzzle.out c_w_toPuzzle.inj F_w_toPuzzle
theorem h_w_toPuzzle : Cert Try.prog 26 S_w_toPuzzle := FnCx.certF (c := c_w_toPuzzle) F_w_toPuzzle (tyOk _ _ _) (spOk ⟨h_w_toClueS, fun _ _ _ => trivial, trivial⟩) (fun _ _ _ _ _ hs => noDr_ok) Try.func26 rfl rfl Try.ntmps26 (by kernel_rfl) rfl rfl (fun _ => rfl) trivial (fun x => .inl ⟨c_w_toPuzzle.start () x, fun _ => rfl⟩) (fun x t hb ht => by
  obtain ⟨a0_Clues, _⟩ := x
  exact (w_toPuzzle_e a0_Clues).trans ht)
/-! spec.CountSolutions -/
noncomputable def c_s_CountSolutions : FnCx := { env := env 11 [(86, S_s_pzGood), (87, S_s_pzAll)] [], body := bodyOf Try.f25, res := [.tmp 2, .tmp 3], ins := [.ro kPuzzle], out := [(kint, true), (kbool, true)], T := Int × Bool, fin := fun r => (r.1.1, r.1.2.1), inj := fun t => ((t.1, t.2, ()), ((), ())), pts := [], fuel := 400, dr := noDr }
noncomputable def s_CountSolutions (p0_Clues : List (Int × Int × Int)) : Option (Int × Bool) :=
  bif !s_pzGood_n p0_Clues then some (0, false) else Option.bind (s_pzAll p0_Clues) fun r => some ((↑(List.length r) : Int), true)
theorem s_CountSolutions_e (p0_Clues : List (Int × Int × Int)) : c_s_CountSolutions.start c_s_CountSolutions.L (p0_Clues, ()) = s_CountSolutions p0_Clues := by kernel_rfl
noncomputable def F_s_CountSolutions : Ins c_s_CountSolutions.ins → Option (Int × Bool) := fun x => s_CountSolutions x.1
noncomputable def S_s_CountSolutions : FSpec := mkF c_s_CountSolutions.env.pre c_s_CountSolutions.ins c_s_CountSolutions.out c_s_CountSolutions.inj F_s_CountSolutions
theorem h_s_CountSolutions : Cert Try.prog 25 S_s_CountSolutions := FnCx.certF (c := c_s_CountSolutions) F_s_CountSolutions (tyOk _ _ _) (spOk ⟨h_s_pzGood, fun _ _ _ => trivial, ⟨h_s_pzAll, fun _ _ _ => trivial, trivial⟩⟩) (fun _ _ _ _ _ hs => noDr_ok) Try.func25 rfl rfl Try.ntmps25 (by kernel_rfl) rfl rfl (fun _ => rfl) trivial (fun x => .inl ⟨c_s_CountSolutions.start () x, fun _ => rfl⟩) (fun x t hb ht => by
  obtain ⟨p0_Clues, _⟩ := x
  exact (s_CountSolutions_e p0_Clues).trans ht)
/-! impl.CountSolutions -/
noncomputable def c_i_CountSolutions : FnCx := { env := env 14 [(45, S_i_Solutions)] [], body := bodyOf Try.f27, res := [.tmp 2, .tmp 3], ins := [.ro kPuzzle], out := [(kint, true), (kbool, true)], T := Int × Bool, fin := fun r => (r.1.1, r.1.2.1), inj := fun t => ((t.1, t.2, ()), ((), ())), pts := [], fuel := 400, dr := noDr }
noncomputable def i_CountSolutions (p0_Clues : List (Int × Int × Int)) : Option (Int × Bool) :=
  Option.bind (i_Solutions p0_Clues) fun r => some ((↑(List.length (Prod.fst r)) : Int), Prod.snd r)
theorem i_CountSolutions_e (p0_Clues : List (Int × Int × Int)) : c_i_CountSolutions.start c_i_CountSolutions.L (p0_Clues, ()) = i_CountSolutions p0_Clues := by kernel_rfl
noncomputable def F_i_CountSolutions : Ins c_i_CountSolutions.ins → Option (Int × Bool) := fun x => i_CountSolutions x.1
noncomputable def S_i_CountSolutions : FSpec := mkF c_i_CountSolutions.env.pre c_i_CountSolutions.ins c_i_CountSolutions.out c_i_CountSolutions.inj F_i_CountSolutions
theorem h_i_CountSolutions : Cert Try.prog 27 S_i_CountSolutions := FnCx.certF (c := c_i_CountSolutions) F_i_CountSolutions (tyOk _ _ _) (spOk ⟨h_i_Solutions, fun _ _ _ => trivial, trivial⟩) (fun _ _ _ _ _ hs => noDr_ok) Try.func27 rfl rfl Try.ntmps27 (by kernel_rfl) rfl rfl (fun _ => rfl) trivial (fun x => .inl ⟨c_i_CountSolutions.start () x, fun _ => rfl⟩) (fun x t hb ht => by
  obtain ⟨p0_Clues, _⟩ := x
  exact (i_CountSolutions_e p0_Clues).trans ht)
/-! laws.eqClue -/
noncomputable def c_w_eqClue : FnCx := { env := env 20 [] [], body := bodyOf Try.f118, res := [.tmp 4], ins := [.ro kClue, .ro kClue], out := [(kbool, true)], T := Bool, fin := fun r => r.1.1, inj := fun t => ((t, ()), ((), (), ())), pts := [], fuel := 400, dr := noDr }
noncomputable def w_eqClue (a0_Kind : Int) (a0_A : Int) (a0_B : Int) (b1_Kind : Int) (b1_A : Int) (b1_B : Int) : Bool :=
  bif a0_Kind != b1_Kind then false else bif a0_A != b1_A then false else bif a0_B != b1_B then false else true
theorem w_eqClue_e (a0_Kind : Int) (a0_A : Int) (a0_B : Int) (b1_Kind : Int) (b1_A : Int) (b1_B : Int) : c_w_eqClue.start c_w_eqClue.L ((a0_Kind, a0_A, a0_B), (b1_Kind, b1_A, b1_B), ()) = some (w_eqClue a0_Kind a0_A a0_B b1_Kind b1_A b1_B) := by
  refine Eq.trans (b := (bif a0_Kind != b1_Kind then some false else bif a0_A != b1_A then some false else bif a0_B != b1_B then some false else some true : Option Bool)) (by kernel_rfl) ?_
  unfold w_eqClue
  repeat (first | rfl | apply condS)
noncomputable def F_w_eqClue : Ins c_w_eqClue.ins → Bool := fun x => w_eqClue x.1.1 x.1.2.1 x.1.2.2 x.2.1.1 x.2.1.2.1 x.2.1.2.2
noncomputable def S_w_eqClue : FSpec := mkT c_w_eqClue.env.pre c_w_eqClue.ins c_w_eqClue.out c_w_eqClue.inj F_w_eqClue
theorem h_w_eqClue : Cert Try.prog 118 S_w_eqClue := FnCx.certT (c := c_w_eqClue) F_w_eqClue (tyOk _ _ _) (spOk trivial) (fun _ _ _ _ _ hs => noDr_ok) Try.func118 rfl rfl Try.ntmps118 (by kernel_rfl) rfl rfl (fun _ => rfl) trivial (fun x => .inl ⟨c_w_eqClue.start () x, fun _ => rfl⟩) (fun x hb => by
  obtain ⟨⟨a0_Kind, a0_A, a0_B⟩, ⟨b1_Kind, b1_A, b1_B⟩, _⟩ := x
  exact w_eqClue_e a0_Kind a0_A a0_B b1_Kind b1_A b1_B)
/-! laws.eqClueS -/
noncomputable def c_w_eqClueS : FnCx := { env := env 27 [(118, S_w_eqClue)] [], body := bodyOf Try.f82, res := [.tmp 4], ins := [.ro kSClue, .ro kSClue], out := [(kbool, true)], T := Bool, fin := fun r => r.1.1, inj := fun t => ((t, ()), ((), (), ())), pts := [([.inLoop [1, 1, 0, 1, 0, 0], .inBlock 0, .code [1, 1, 1]], Shape.mk [Bs.row kClue 63 false, Bs.row kClue 63 false] [(0, Ss.one (Cs.sl 0)), (1, Ss.one (Cs.sl 1)), (5, Ss.one (Cs.sc kint))] [Ss.one (Cs.any), Ss.one (Cs.any)])], fuel := 400, dr := evDr (env 27 [(118, S_w_eqClue)] []) }
noncomputable def w_eqClueS_t1 (g1 : List (Int × (Int × Int)) → List (Int × (Int × Int)) → Int → Option (Bool)) (r0 : List (Int × (Int × Int))) (r1 : List (Int × (Int × Int))) (i5 : Int) : Option Bool :=
  bif decide (i5 < (↑(List.length r0) : Int)) then
    bif decide (0 ≤ i5) then
      bif decide (i5 < (↑(List.length r0) : Int)) then
        bif decide (0 ≤ i5) then
          bif decide (i5 < (↑(List.length r1) : Int)) then
            bif
                !w_eqClue (Prod.fst (rdk kClue r0 i5))
                    (Prod.fst (Prod.snd (rdk kClue r0 i5)))
                    (Prod.snd (Prod.snd (rdk kClue r0 i5)))
                    (Prod.fst (rdk kClue r1 i5))
                    (Prod.fst (Prod.snd (rdk kClue r1 i5)))
                    (Prod.snd (Prod.snd (rdk kClue r1 i5))) then
              some false
            else g1 r0 r1 (IntKind.wrap IntKind.i64 (i5 + 1))
          else none
        else none
      else none
    else none
  else some true
noncomputable def w_eqClueS_t0 (g1 : List (Int × (Int × Int)) → List (Int × (Int × Int)) → Int → Option (Bool)) (a0 : List (Int × Int × Int)) (b1 : List (Int × Int × Int)) : Option Bool :=
  bif (↑(List.length a0) : Int) != (↑(List.length b1) : Int) then some false else g1 a0 b1 0
theorem w_eqClueS_ts : Tails c_w_eqClueS.pts c_w_eqClueS.round :=
  ⟨fun s => by
    obtain ⟨⟨r0, r1, _⟩, ⟨_, _, i5, _⟩, ⟨_, _, _⟩⟩ := s
    refine Tail.eq (Y := fun g => w_eqClueS_t1 (fun r0 r1 i5 => g.1 ((r0, r1, ()), ((), (), i5, ()), ((), (), ()))) r0 r1 i5) ?_ (fun g => by kernel_rfl)
    simp only [w_eqClueS_t1]; repeat (first | exact Tail.const _ | exact Tail.here _ | exact Tail.there (Tail.here _) | exact Tail.there (Tail.there (Tail.here _)) | exact Tail.there (Tail.there (Tail.there (Tail.here _))) | exact Tail.there (Tail.there (Tail.there (Tail.there (Tail.here _)))) | exact Tail.there (Tail.there (Tail.there (Tail.there (Tail.there (Tail.here _))))) | apply Tail.cond | (apply Tail.bind; intro _)), trivial⟩
theorem w_eqClueS_hs : ∀ x, Tail c_w_eqClueS.pts (fun g => c_w_eqClueS.start g x) := fun x => by
    obtain ⟨a0, b1, _⟩ := x
    refine Tail.eq (Y := fun g => w_eqClueS_t0 (fun r0 r1 i5 => g.1 ((r0, r1, ()), ((), (), i5, ()), ((), (), ()))) a0 b1) ?_ (fun g => by kernel_rfl)
    simp only [w_eqClueS_t0]; repeat (first | exact Tail.const _ | exact Tail.here _ | exact Tail.there (Tail.here _) | exact Tail.there (Tail.there (Tail.here _)) | exact Tail.there (Tail.there (Tail.there (Tail.here _))) | exact Tail.there (Tail.there (Tail.there (Tail.there (Tail.here _)))) | exact Tail.there (Tail.there (Tail.there (Tail.there (Tail.there (Tail.here _))))) | apply Tail.cond | (apply Tail.bind; intro _))
noncomputable def w_eqClueS_L1 (r0 : List (Int × (Int × Int))) (r1 : List (Int × (Int × Int))) (i5 : Int) : Option Bool := c_w_eqClueS.L.1 ((r0, r1, ()), ((), (), i5, ()), ((), (), ()))
theorem w_eqClueS_u1 (r0 : List (Int × (Int × Int))) (r1 : List (Int × (Int × Int))) (i5 : Int) : w_eqClueS_L1 r0 r1 i5 = w_eqClueS_t1 w_eqClueS_L1 r0 r1 i5 :=
  (congrArg (fun g => g.1 ((r0, r1, ()), ((), (), i5, ()), ((), (), ()))) (FnCx.L_eq w_eqClueS_ts)).trans (by kernel_rfl)
noncomputable def w_eqClueS (a0 : List (Int × Int × Int)) (b1 : List (Int × Int × Int)) : Option Bool := w_eqClueS_t0 w_eqClueS_L1 a0 b1
theorem w_eqClueS_e (a0 : List (Int × Int × Int)) (b1 : List (Int × Int × Int)) : c_w_eqClueS.start c_w_eqClueS.L (a0, b1, ()) = w_eqClueS a0 b1 := by kernel_rfl
-- NICE tot
noncomputable def w_eqClueS_n (a b : List (Int × Int × Int)) : Bool := decide (a = b)
theorem w_eqClue_iff (a b : Int × Int × Int) : w_eqClue a.1 a.2.1 a.2.2 b.1 b.2.1 b.2.2 = decide (a = b) := by
  obtain ⟨a1, a2, a3⟩ := a
  obtain ⟨b1, b2, b3⟩ := b
  unfold w_eqClue
  by_cases h1 : a1 = b1 <;> by_cases h2 : a2 = b2 <;> by_cases h3 : a3 = b3 <;> simp [h1, h2, h3]
theorem w_eqClueS_ok (a b : List (Int × Int × Int)) (hb : BdI c_w_eqClueS.ins (a, b, ())) : w_eqClueS a b = some (w_eqClueS_n a b) := by
  unfold w_eqClueS w_eqClueS_t0 w_eqClueS_n
  by_cases hl : a.length = b.length
  · have e := loop_eq (L := fun i => w_eqClueS_L1 a b (i : Int)) hl (fun i h h' => by
        simp only [w_eqClueS_u1 a b i, w_eqClueS_t1, rdk_get (k := kClue) h, rdk_get (k := kClue) h', wrapS h hb.1.1, w_eqClue_iff]
        by_cases hx : a[i] = b[i] <;> simp [h, h', hx]) (by simp [w_eqClueS_u1 a b a.length, w_eqClueS_t1])
    simpa [hl] using e
  · have hab : a ≠ b := fun e => hl (by rw [e])
    have : ((a.length : Int) != (b.length : Int)) = true := by simp; omega
    rw [this]
    simp [hab]
noncomputable def F_w_eqClueS : Ins c_w_eqClueS.ins → Bool := fun x => w_eqClueS_n x.1 x.2.1
noncomputable def S_w_eqClueS : FSpec := mkT c_w_eqClueS.env.pre c_w_eqClueS.ins c_w_eqClueS.out c_w_eqClueS.inj F_w_eqClueS
theorem h_w_eqClueS : Cert Try.prog 82 S_w_eqClueS := FnCx.certT (c := c_w_eqClueS) F_w_eqClueS (tyOk _ _ _) (spOk ⟨h_w_eqClue, fun _ _ _ => trivial, trivial⟩) (fun _ _ _ _ _ hs => evDr_ok (tyOk _ _ _) hs follows) Try.func82 rfl rfl Try.ntmps82 (by kernel_rfl) rfl rfl (fun _ => rfl) w_eqClueS_ts w_eqClueS_hs (fun x hb => by
  obtain ⟨a0, b1, _⟩ := x
  exact (w_eqClueS_e a0 b1).trans (w_eqClueS_ok a0 b1 hb))
/-! laws.eqPuzzle -/
noncomputable def c_w_eqPuzzle : FnCx := { env := env 11 [(82, S_w_eqClueS)] [], body := bodyOf Try.f19, res := [.tmp 4], ins := [.ro kPuzzle, .ro kPuzzle], out := [(kbool, true)], T := Bool, fin := fun r => r.1.1, inj := fun t => ((t, ()), ((), (), ())), pts := [], fuel := 400, dr := noDr }
noncomputable def w_eqPuzzle (a0_Clues : List (Int × Int × Int)) (b1_Clues : List (Int × Int × Int)) : Bool :=
  bif !w_eqClueS_n a0_Clues b1_Clues then false else true
theorem w_eqPuzzle_e (a0_Clues : List (Int × Int × Int)) (b1_Clues : List (Int × Int × Int)) : c_w_eqPuzzle.start c_w_eqPuzzle.L (a0_Clues, b1_Clues, ()) = some (w_eqPuzzle a0_Clues b1_Clues) := by
  refine Eq.trans (b := (bif !w_eqClueS_n a0_Clues b1_Clues then some false else some true : Option Bool)) (by kernel_rfl) ?_
  unfold w_eqPuzzle
  repeat (first | rfl | apply condS)
theorem szClueS_le {l : List (Int × Int × Int)} (h : l.length ≤ maxLen) (hs : decide (w_szClueS l 1048576 < 0) = false) : l.length ≤ 1048576 := by
  rw [maxLen_eq] at h
  unfold w_szClueS at hs
  rw [wrap64 (by omega) (by omega)] at hs
  by_cases hh : (1048576 - (l.length : Int)) < 0
  · simp [hh] at hs
  · omega
theorem szPuzzle_le {y : List (Int × Int × Int)} (h : y.length ≤ maxLen) (hs : decide (w_szPuzzle y 1048576 < 0) = false) : y.length ≤ 1048576 :=
  szClueS_le (l := y) h (by
      unfold w_szPuzzle at hs
      cases h : decide (w_szClueS y 1048576 < 0)
      · rfl
      · rw [h] at hs; simp at hs)
theorem toPuzzle_eq {y : List (Int × Int × Int)} (hl : y.length ≤ 1048576) : w_toPuzzle y = some y := by
  have : decide (y.length ≤ 4294967296) = true := decide_eq_true (by omega)
  simp [w_toPuzzle, w_toClueS_n, this]
theorem eqPuzzle_eq (a b : List (Int × Int × Int)) : w_eqPuzzle a b = decide (a = b) := by
  unfold w_eqPuzzle w_eqClueS_n
  cases decide (a = b) <;> rfl
noncomputable def F_w_eqPuzzle : Ins c_w_eqPuzzle.ins → Bool := fun x => w_eqPuzzle x.1 x.2.1
noncomputable def S_w_eqPuzzle : FSpec := mkT c_w_eqPuzzle.env.pre c_w_eqPuzzle.ins c_w_eqPuzzle.out c_w_eqPuzzle.inj F_w_eqPuzzle
theorem h_w_eqPuzzle : Cert Try.prog 19 S_w_eqPuzzle := FnCx.certT (c := c_w_eqPuzzle) F_w_eqPuzzle (tyOk _ _ _) (spOk ⟨h_w_eqClueS, fun _ _ _ => trivial, trivial⟩) (fun _ _ _ _ _ hs => noDr_ok) Try.func19 rfl rfl Try.ntmps19 (by kernel_rfl) rfl rfl (fun _ => rfl) trivial (fun x => .inl ⟨c_w_eqPuzzle.start () x, fun _ => rfl⟩) (fun x hb => by
  obtain ⟨a0_Clues, b1_Clues, _⟩ := x
  exact w_eqPuzzle_e a0_Clues b1_Clues)
/-! laws.FnExactCountSolutions -/
noncomputable def c_w_FnExactCountSolutions : FnCx := { env := env 40 [(24, S_w_szPuzzle), (26, S_w_toPuzzle), (25, S_s_CountSolutions), (27, S_i_CountSolutions), (19, S_w_eqPuzzle)] [], body := bodyOf Try.f4, res := [.tmp 2], ins := [.ro kwPuzzle], out := [(kbool, true)], T := Bool, fin := fun r => r.1.1, inj := fun t => ((t, ()), ((), ())), pts := [], fuel := 400, dr := evDr (env 40 [(24, S_w_szPuzzle), (26, S_w_toPuzzle), (25, S_s_CountSolutions), (27, S_i_CountSolutions), (19, S_w_eqPuzzle)] []) }
noncomputable def w_FnExactCountSolutions (aP0_Clues : List (Int × Int × Int)) : Option Bool :=
  bif decide (w_szPuzzle aP0_Clues 1048576 < 0) then some true
  else
    Option.bind (w_toPuzzle aP0_Clues) fun r =>
      Option.bind (s_CountSolutions r) fun r =>
        Option.bind (w_toPuzzle aP0_Clues) fun r_1 =>
          Option.bind (i_CountSolutions r_1) fun r_2 =>
            bif Prod.fst r_2 != Prod.fst r then some false
            else
              bif !Prod.snd r_2 == Prod.snd r then some false
              else Option.bind (w_toPuzzle aP0_Clues) fun r => bif !w_eqPuzzle r_1 r then some false else some true
theorem w_FnExactCountSolutions_e (aP0_Clues : List (Int × Int × Int)) : c_w_FnExactCountSolutions.start c_w_FnExactCountSolutions.L (aP0_Clues, ()) = w_FnExactCountSolutions aP0_Clues := by kernel_rfl
noncomputable def F_w_FnExactCountSolutions : Ins c_w_FnExactCountSolutions.ins → Option Bool := fun x => w_FnExactCountSolutions x.1
noncomputable def S_w_FnExactCountSolutions : FSpec := mkF c_w_FnExactCountSolutions.env.pre c_w_FnExactCountSolutions.ins c_w_FnExactCountSolutions.out c_w_FnExactCountSolutions.inj F_w_FnExactCountSolutions
theorem h_w_FnExactCountSolutions : Cert Try.prog 4 S_w_FnExactCountSolutions := FnCx.certF (c := c_w_FnExactCountSolutions) F_w_FnExactCountSolutions (tyOk _ _ _) (spOk ⟨h_w_szPuzzle, fun _ _ _ => trivial, ⟨h_w_toPuzzle, fun _ _ _ => trivial, ⟨h_s_CountSolutions, fun _ _ _ => trivial, ⟨h_i_CountSolutions, fun _ _ _ => trivial, ⟨h_w_eqPuzzle, fun _ _ _ => trivial, trivial⟩⟩⟩⟩⟩) (fun _ _ _ _ _ hs => evDr_ok (tyOk _ _ _) hs follows) Try.func4 rfl rfl Try.ntmps4 (by kernel_rfl) rfl rfl (fun _ => rfl) trivial (fun x => .inl ⟨c_w_FnExactCountSolutions.start () x, fun _ => rfl⟩) (fun x t hb ht => by
  obtain ⟨aP0_Clues, _⟩ := x
  exact (w_FnExactCountSolutions_e aP0_Clues).trans ht)
end Go.Proofs.Ytbemnabojjiikaa.V
