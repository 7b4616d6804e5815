/- Functions of the program, as plain functions. No condition. -/
import Derived.Test.YtbemnabojjiikaaB5
set_option linter.unusedVariables false
set_option linter.unusedSimpArgs false
set_option maxRecDepth 100000
namespace Go.Proofs.Ytbemnabojjiikaa.V
open Go Go.Ev Go.Proofs
/-! spec.LeftByClues -/
noncomputable def c_s_LeftByClues : FnCx := { env := env 26 [(86, S_s_pzGood), (87, S_s_pzAll)] [], body := bodyOf Try.f32, res := [.tmp 2, .tmp 3], ins := [.ro kPuzzle], out := [(kSint, true), (kbool, true)], T := List Int × Bool, fin := fun r => (r.1.1, r.1.2.1), inj := fun t => ((t.1, t.2, ()), ((), ())), pts := [([.inLoop [1, 1, 1, 0, 1, 0, 0], .inBlock 0, .code [1, 1, 1, 1]], Shape.mk [Bs.box 28 [Cs.sl 2], Bs.row kint 3 true, Bs.row kClue 63 false] [(1, Ss.one (Cs.ptr 0 0)), (4, Ss.one (Cs.sl 1)), (5, Ss.one (Cs.sc kint))] [Ss.one (Cs.any)])], fuel := 400, dr := noDr }
noncomputable def s_LeftByClues_t1 (g1 : List (Int) → List (Int × (Int × Int)) → Int → Option (List Int × Bool)) (r1 : List (Int)) (r2 : List (Int × (Int × Int))) (k5 : Int) : Option (List Int × Bool) :=
  bif decide (k5 ≤ (↑(List.length r2) : Int)) then
    bif decide (0 ≤ k5) then
      bif decide (k5 ≤ (↑(List.length r2) : Int)) then
        Option.bind (s_pzAll (List.take (Int.toNat k5 - Int.toNat 0) (List.drop (Int.toNat 0) r2))) fun r =>
          bif Nat.ble (List.length r1 + 1) 4294967296 then g1 (r1 ++ [(↑(List.length r) : Int)]) r2 (IntKind.wrap IntKind.i64 (k5 + 1)) else none
      else none
    else none
  else some (r1, true)
noncomputable def s_LeftByClues_t0 (g1 : List (Int) → List (Int × (Int × Int)) → Int → Option (List Int × Bool)) (p0_Clues : List (Int × Int × Int)) : Option (List Int × Bool) :=
  bif !s_pzGood_n p0_Clues then some ([], false) else g1 [] p0_Clues 0
theorem s_LeftByClues_ts : Tails c_s_LeftByClues.pts c_s_LeftByClues.round :=
  ⟨fun s => by
    obtain ⟨⟨⟨_, _⟩, r1, r2, _⟩, ⟨_, _, k5, _⟩, ⟨_, _⟩⟩ := s
    refine Tail.eq (Y := fun g => s_LeftByClues_t1 (fun r1 r2 k5 => g.1 ((((), ()), r1, r2, ()), ((), (), k5, ()), ((), ()))) r1 r2 k5) ?_ (fun g => by kernel_rfl)
    simp only [s_LeftByClues_t1]; repeat (first | exact Tail.const _ | exact Tail.here _ | exact Tail.there (Tail.here _) | exact Tail.there (Tail.there (Tail.here _)) | exact Tail.there (Tail.there (Tail.there (Tail.here _))) | exact Tail.there (Tail.there (Tail.there (Tail.there (Tail.here _)))) | exact Tail.there (Tail.there (Tail.there (Tail.there (Tail.there (Tail.here _))))) | apply Tail.cond | (apply Tail.bind; intro _)), trivial⟩
theorem s_LeftByClues_hs : ∀ x, Tail c_s_LeftByClues.pts (fun g => c_s_LeftByClues.start g x) := fun x => by
    obtain ⟨p0_Clues, _⟩ := x
    refine Tail.eq (Y := fun g => s_LeftByClues_t0 (fun r1 r2 k5 => g.1 ((((), ()), r1, r2, ()), ((), (), k5, ()), ((), ()))) p0_Clues) ?_ (fun g => by kernel_rfl)
    simp only [s_LeftByClues_t0]; repeat (first | exact Tail.const _ | exact Tail.here _ | exact Tail.there (Tail.here _) | exact Tail.there (Tail.there (Tail.here _)) | exact Tail.there (Tail.there (Tail.there (Tail.here _))) | exact Tail.there (Tail.there (Tail.there (Tail.there (Tail.here _)))) | exact Tail.there (Tail.there (Tail.there (Tail.there (Tail.there (Tail.here _))))) | apply Tail.cond | (apply Tail.bind; intro _))
noncomputable def s_LeftByClues_L1 (r1 : List (Int)) (r2 : List (Int × (Int × Int))) (k5 : Int) : Option (List Int × Bool) := c_s_LeftByClues.L.1 ((((), ()), r1, r2, ()), ((), (), k5, ()), ((), ()))
theorem s_LeftByClues_u1 (r1 : List (Int)) (r2 : List (Int × (Int × Int))) (k5 : Int) : s_LeftByClues_L1 r1 r2 k5 = s_LeftByClues_t1 s_LeftByClues_L1 r1 r2 k5 :=
  (congrArg (fun g => g.1 ((((), ()), r1, r2, ()), ((), (), k5, ()), ((), ()))) (FnCx.L_eq s_LeftByClues_ts)).trans (by kernel_rfl)
noncomputable def s_LeftByClues (p0_Clues : List (Int × Int × Int)) : Option (List Int × Bool) := s_LeftByClues_t0 s_LeftByClues_L1 p0_Clues
theorem s_LeftByClues_e (p0_Clues : List (Int × Int × Int)) : c_s_LeftByClues.start c_s_LeftByClues.L (p0_Clues, ()) = s_LeftByClues p0_Clues := by kernel_rfl
noncomputable def F_s_LeftByClues : Ins c_s_LeftByClues.ins → Option (List Int × Bool) := fun x => s_LeftByClues x.1
noncomputable def S_s_LeftByClues : FSpec := mkF c_s_LeftByClues.env.pre c_s_LeftByClues.ins c_s_LeftByClues.out c_s_LeftByClues.inj F_s_LeftByClues
theorem h_s_LeftByClues : Cert Try.prog 32 S_s_LeftByClues := FnCx.certF (c := c_s_LeftByClues) F_s_LeftByClues (tyOk _ _ _) (spOk ⟨h_s_pzGood, fun _ _ _ => trivial, ⟨h_s_pzAll, fun _ _ _ => trivial, trivial⟩⟩) (fun _ _ _ _ _ hs => noDr_ok) Try.func32 rfl rfl Try.ntmps32 (by kernel_rfl) rfl rfl (fun _ => rfl) s_LeftByClues_ts s_LeftByClues_hs (fun x t hb ht => by
  obtain ⟨p0_Clues, _⟩ := x
  exact (s_LeftByClues_e p0_Clues).trans ht)
/-! impl.LeftByClues -/
noncomputable def c_i_LeftByClues : FnCx := { env := env 28 [(56, S_i_IsPuzzle), (90, S_i_solutions)] [], body := bodyOf Try.f33, res := [.tmp 2, .tmp 3], ins := [.ro kPuzzle], out := [(kSint, true), (kbool, true)], T := List Int × Bool, fin := fun r => (r.1.1, r.1.2.1), inj := fun t => ((t.1, t.2, ()), ((), ())), pts := [([.inLoop [1, 1, 1, 0, 1, 0, 0], .inBlock 0, .code [1, 1, 1, 1]], Shape.mk [Bs.box 28 [Cs.sl 2], Bs.row kint 3 true, Bs.row kClue 63 false] [(1, Ss.one (Cs.ptr 0 0)), (4, Ss.one (Cs.sl 1)), (13, Ss.one (Cs.sc kint)), (14, Ss.one (Cs.sc kint))] [Ss.one (Cs.any)])], fuel := 400, dr := noDr }
noncomputable def i_LeftByClues_t1 (g1 : List (Int) → List (Int × (Int × Int)) → Int → Int → Option (List Int × Bool)) (r1 : List (Int)) (r2 : List (Int × (Int × Int))) (s13 : Int) (s14 : Int) : Option (List Int × Bool) :=
  bif decide (s14 < s13) then
    bif decide (0 ≤ s14) then
      bif decide (s14 ≤ (↑(List.length r2) : Int)) then
        Option.bind (i_solutions (List.take (Int.toNat s14 - Int.toNat 0) (List.drop (Int.toNat 0) r2))) fun r =>
          bif Nat.ble (List.length r1 + 1) 4294967296 then g1 (r1 ++ [(↑(List.length r) : Int)]) r2 s13 (IntKind.wrap IntKind.i64 (s14 + 1)) else none
      else none
    else none
  else some (r1, true)
noncomputable def i_LeftByClues_t0 (g1 : List (Int) → List (Int × (Int × Int)) → Int → Int → Option (List Int × Bool)) (p0_Clues : List (Int × Int × Int)) : Option (List Int × Bool) :=
  bif !i_IsPuzzle p0_Clues then some ([], false) else g1 [] p0_Clues (IntKind.wrap IntKind.i64 ((↑(List.length p0_Clues) : Int) + 1)) 0
theorem i_LeftByClues_ts : Tails c_i_LeftByClues.pts c_i_LeftByClues.round :=
  ⟨fun s => by
    obtain ⟨⟨⟨_, _⟩, r1, r2, _⟩, ⟨_, _, s13, s14, _⟩, ⟨_, _⟩⟩ := s
    refine Tail.eq (Y := fun g => i_LeftByClues_t1 (fun r1 r2 s13 s14 => g.1 ((((), ()), r1, r2, ()), ((), (), s13, s14, ()), ((), ()))) r1 r2 s13 s14) ?_ (fun g => by kernel_rfl)
    simp only [i_LeftByClues_t1]; repeat (first | exact Tail.const _ | exact Tail.here _ | exact Tail.there (Tail.here _) | exact Tail.there (Tail.there (Tail.here _)) | exact Tail.there (Tail.there (Tail.there (Tail.here _))) | exact Tail.there (Tail.there (Tail.there (Tail.there (Tail.here _)))) | exact Tail.there (Tail.there (Tail.there (Tail.there (Tail.there (Tail.here _))))) | apply Tail.cond | (apply Tail.bind; intro _)), trivial⟩
theorem i_LeftByClues_hs : ∀ x, Tail c_i_LeftByClues.pts (fun g => c_i_LeftByClues.start g x) := fun x => by
    obtain ⟨p0_Clues, _⟩ := x
    refine Tail.eq (Y := fun g => i_LeftByClues_t0 (fun r1 r2 s13 s14 => g.1 ((((), ()), r1, r2, ()), ((), (), s13, s14, ()), ((), ()))) p0_Clues) ?_ (fun g => by kernel_rfl)
    simp only [i_LeftByClues_t0]; repeat (first | exact Tail.const _ | exact Tail.here _ | exact Tail.there (Tail.here _) | exact Tail.there (Tail.there (Tail.here _)) | exact Tail.there (Tail.there (Tail.there (Tail.here _))) | exact Tail.there (Tail.there (Tail.there (Tail.there (Tail.here _)))) | exact Tail.there (Tail.there (Tail.there (Tail.there (Tail.there (Tail.here _))))) | apply Tail.cond | (apply Tail.bind; intro _))
noncomputable def i_LeftByClues_L1 (r1 : List (Int)) (r2 : List (Int × (Int × Int))) (s13 : Int) (s14 : Int) : Option (List Int × Bool) := c_i_LeftByClues.L.1 ((((), ()), r1, r2, ()), ((), (), s13, s14, ()), ((), ()))
theorem i_LeftByClues_u1 (r1 : List (Int)) (r2 : List (Int × (Int × Int))) (s13 : Int) (s14 : Int) : i_LeftByClues_L1 r1 r2 s13 s14 = i_LeftByClues_t1 i_LeftByClues_L1 r1 r2 s13 s14 :=
  (congrArg (fun g => g.1 ((((), ()), r1, r2, ()), ((), (), s13, s14, ()), ((), ()))) (FnCx.L_eq i_LeftByClues_ts)).trans (by kernel_rfl)
noncomputable def i_LeftByClues (p0_Clues : List (Int × Int × Int)) : Option (List Int × Bool) := i_LeftByClues_t0 i_LeftByClues_L1 p0_Clues
theorem i_LeftByClues_e (p0_Clues : List (Int × Int × Int)) : c_i_LeftByClues.start c_i_LeftByClues.L (p0_Clues, ()) = i_LeftByClues p0_Clues := by kernel_rfl
noncomputable def F_i_LeftByClues : Ins c_i_LeftByClues.ins → Option (List Int × Bool) := fun x => i_LeftByClues x.1
noncomputable def S_i_LeftByClues : FSpec := mkF c_i_LeftByClues.env.pre c_i_LeftByClues.ins c_i_LeftByClues.out c_i_LeftByClues.inj F_i_LeftByClues
theorem h_i_LeftByClues : Cert Try.prog 33 S_i_LeftByClues := FnCx.certF (c := c_i_LeftByClues) F_i_LeftByClues (tyOk _ _ _) (spOk ⟨h_i_IsPuzzle, fun _ _ _ => trivial, ⟨h_i_solutions, fun _ _ _ => trivial, trivial⟩⟩) (fun _ _ _ _ _ hs => noDr_ok) Try.func33 rfl rfl Try.ntmps33 (by kernel_rfl) rfl rfl (fun _ => rfl) i_LeftByClues_ts i_LeftByClues_hs (fun x t hb ht => by
  obtain ⟨p0_Clues, _⟩ := x
  exact (i_LeftByClues_e p0_Clues).trans ht)
/-! laws.eqIntS -/
noncomputable def c_w_eqIntS : FnCx := { env := env 26 [] [], body := bodyOf Try.f34, res := [.tmp 4], ins := [.ro kSint, .ro kSint], out := [(kbool, true)], T := Bool, fin := fun r => r.1.1, inj := fun t => ((t, ()), ((), (), ())), pts := [([.inLoop [1, 1, 0, 1, 0, 0], .inBlock 0, .code [1, 1, 1]], Shape.mk [Bs.row kint 3 false, Bs.row kint 3 false] [(0, Ss.one (Cs.sl 0)), (1, Ss.one (Cs.sl 1)), (5, Ss.one (Cs.sc kint))] [Ss.one (Cs.any), Ss.one (Cs.any)])], fuel := 400, dr := evDr (env 26 [] []) }
noncomputable def w_eqIntS_t1 (g1 : List (Int) → List (Int) → Int → Option (Bool)) (r0 : List (Int)) (r1 : List (Int)) (i5 : Int) : Option Bool :=
  bif decide (i5 < (↑(List.length r0) : Int)) then
    bif decide (0 ≤ i5) then
      bif decide (i5 < (↑(List.length r0) : Int)) then
        bif decide (0 ≤ i5) then
          bif decide (i5 < (↑(List.length r1) : Int)) then
            bif rdk kint r0 i5 != rdk kint r1 i5 then some false else g1 r0 r1 (IntKind.wrap IntKind.i64 (i5 + 1))
          else none
        else none
      else none
    else none
  else some true
noncomputable def w_eqIntS_t0 (g1 : List (Int) → List (Int) → Int → Option (Bool)) (a0 : List Int) (b1 : List Int) : Option Bool :=
  bif (↑(List.length a0) : Int) != (↑(List.length b1) : Int) then some false else g1 a0 b1 0
theorem w_eqIntS_ts : Tails c_w_eqIntS.pts c_w_eqIntS.round :=
  ⟨fun s => by
    obtain ⟨⟨r0, r1, _⟩, ⟨_, _, i5, _⟩, ⟨_, _, _⟩⟩ := s
    refine Tail.eq (Y := fun g => w_eqIntS_t1 (fun r0 r1 i5 => g.1 ((r0, r1, ()), ((), (), i5, ()), ((), (), ()))) r0 r1 i5) ?_ (fun g => by kernel_rfl)
    simp only [w_eqIntS_t1]; repeat (first | exact Tail.const _ | exact Tail.here _ | exact Tail.there (Tail.here _) | exact Tail.there (Tail.there (Tail.here _)) | exact Tail.there (Tail.there (Tail.there (Tail.here _))) | exact Tail.there (Tail.there (Tail.there (Tail.there (Tail.here _)))) | exact Tail.there (Tail.there (Tail.there (Tail.there (Tail.there (Tail.here _))))) | apply Tail.cond | (apply Tail.bind; intro _)), trivial⟩
theorem w_eqIntS_hs : ∀ x, Tail c_w_eqIntS.pts (fun g => c_w_eqIntS.start g x) := fun x => by
    obtain ⟨a0, b1, _⟩ := x
    refine Tail.eq (Y := fun g => w_eqIntS_t0 (fun r0 r1 i5 => g.1 ((r0, r1, ()), ((), (), i5, ()), ((), (), ()))) a0 b1) ?_ (fun g => by kernel_rfl)
    simp only [w_eqIntS_t0]; repeat (first | exact Tail.const _ | exact Tail.here _ | exact Tail.there (Tail.here _) | exact Tail.there (Tail.there (Tail.here _)) | exact Tail.there (Tail.there (Tail.there (Tail.here _))) | exact Tail.there (Tail.there (Tail.there (Tail.there (Tail.here _)))) | exact Tail.there (Tail.there (Tail.there (Tail.there (Tail.there (Tail.here _))))) | apply Tail.cond | (apply Tail.bind; intro _))
noncomputable def w_eqIntS_L1 (r0 : List (Int)) (r1 : List (Int)) (i5 : Int) : Option Bool := c_w_eqIntS.L.1 ((r0, r1, ()), ((), (), i5, ()), ((), (), ()))
theorem w_eqIntS_u1 (r0 : List (Int)) (r1 : List (Int)) (i5 : Int) : w_eqIntS_L1 r0 r1 i5 = w_eqIntS_t1 w_eqIntS_L1 r0 r1 i5 :=
  (congrArg (fun g => g.1 ((r0, r1, ()), ((), (), i5, ()), ((), (), ()))) (FnCx.L_eq w_eqIntS_ts)).trans (by kernel_rfl)
noncomputable def w_eqIntS (a0 : List Int) (b1 : List Int) : Option Bool := w_eqIntS_t0 w_eqIntS_L1 a0 b1
theorem w_eqIntS_e (a0 : List Int) (b1 : List Int) : c_w_eqIntS.start c_w_eqIntS.L (a0, b1, ()) = w_eqIntS a0 b1 := by kernel_rfl
-- NICE tot
noncomputable def w_eqIntS_n (a b : List Int) : Bool := decide (a = b)
theorem w_eqIntS_ok (a b : List Int) (hb : BdI c_w_eqIntS.ins (a, b, ())) : w_eqIntS a b = some (w_eqIntS_n a b) := by
  unfold w_eqIntS w_eqIntS_t0 w_eqIntS_n
  by_cases hl : a.length = b.length
  · have e := loop_eq (L := fun i => w_eqIntS_L1 a b (i : Int)) hl (fun i h h' => by
        simp only [w_eqIntS_u1 a b i, w_eqIntS_t1, rdk_get (k := kint) h, rdk_get (k := kint) h', wrapS h hb.1.1]
        have hne : (a[i] != b[i]) = !decide (a[i] = b[i]) := rfl
        by_cases hx : a[i] = b[i] <;> simp [h, h', hx, hne]) (by simp [w_eqIntS_u1 a b a.length, w_eqIntS_t1])
    simpa [hl] using e
  · have hab : a ≠ b := fun e => hl (by rw [e])
    have : ((a.length : Int) != (b.length : Int)) = true := by simp; omega
    rw [this]
    simp [hab]
noncomputable def F_w_eqIntS : Ins c_w_eqIntS.ins → Bool := fun x => w_eqIntS_n x.1 x.2.1
noncomputable def S_w_eqIntS : FSpec := mkT c_w_eqIntS.env.pre c_w_eqIntS.ins c_w_eqIntS.out c_w_eqIntS.inj F_w_eqIntS
theorem h_w_eqIntS : Cert Try.prog 34 S_w_eqIntS := FnCx.certT (c := c_w_eqIntS) F_w_eqIntS (tyOk _ _ _) (spOk trivial) (fun _ _ _ _ _ hs => evDr_ok (tyOk _ _ _) hs follows) Try.func34 rfl rfl Try.ntmps34 (by kernel_rfl) rfl rfl (fun _ => rfl) w_eqIntS_ts w_eqIntS_hs (fun x hb => by
  obtain ⟨a0, b1, _⟩ := x
  exact (w_eqIntS_e a0 b1).trans (w_eqIntS_ok a0 b1 hb))
/-! laws.markClueS -/
noncomputable def c_w_markClueS : FnCx := { env := env 34 [] [], body := bodyOf Try.f83, res := [.tmp 4], ins := [.wr kSClue, .ro kint], out := [(kint, true)], T := Int × List (Int × Int × Int), fin := fun r => (r.1.1, r.2.1), inj := fun t => ((t.1, ()), (t.2, (), ())), pts := [([.inLoop [1, 0, 1, 0, 0], .inBlock 0, .code [1, 1]], Shape.mk [Bs.row kClue 63 true] [(0, Ss.one (Cs.sl 0)), (1, Ss.one (Cs.sc kint)), (5, Ss.one (Cs.sc kint))] [Ss.one (Cs.sl 0), Ss.one (Cs.any)])], fuel := 400, dr := noDr }
noncomputable def w_markClueS_t1 (g1 : List (Int × (Int × Int)) → Int → Int → Option (Int × List (Int × Int × Int))) (r0 : List (Int × (Int × Int))) (k1 : Int) (i5 : Int) : Option (Int × List (Int × Int × Int)) :=
  bif decide (i5 < (↑(List.length r0) : Int)) then
    bif decide (0 ≤ i5) then
      bif decide (i5 < (↑(List.length r0) : Int)) then
        bif decide (0 ≤ i5) then
          bif
              decide
                (i5 <
                  (↑(List.length
                        (List.set r0 (Int.toNat i5)
                          (k1, Prod.snd (rdk kClue r0 i5)))) :
                    Int)) then
            bif decide (0 ≤ i5) then
              bif
                  decide
                    (i5 <
                      (↑(List.length
                            (List.set
                              (List.set r0 (Int.toNat i5)
                                (k1, Prod.snd (rdk kClue r0 i5)))
                              (Int.toNat i5)
                              (Prod.fst
                                  (rdk kClue
                                    (List.set r0 (Int.toNat i5)
                                      (k1, Prod.snd (rdk kClue r0 i5)))
                                    i5),
                                IntKind.wrap IntKind.i64 (k1 + 1),
                                Prod.snd
                                  (Prod.snd
                                    (rdk kClue
                                      (List.set r0 (Int.toNat i5)
                                        (k1, Prod.snd (rdk kClue r0 i5)))
                                      i5))))) :
                        Int)) then
                g1
                  (List.set
                    (List.set
                      (List.set r0 (Int.toNat i5)
                        (k1, Prod.snd (rdk kClue r0 i5)))
                      (Int.toNat i5)
                      (Prod.fst
                          (rdk kClue
                            (List.set r0 (Int.toNat i5)
                              (k1, Prod.snd (rdk kClue r0 i5)))
                            i5),
                        IntKind.wrap IntKind.i64 (k1 + 1),
                        Prod.snd
                          (Prod.snd
                            (rdk kClue
                              (List.set r0 (Int.toNat i5)
                                (k1, Prod.snd (rdk kClue r0 i5)))
                              i5))))
                    (Int.toNat i5)
                    (Prod.fst
                        (rdk kClue
                          (List.set
                            (List.set r0 (Int.toNat i5)
                              (k1, Prod.snd (rdk kClue r0 i5)))
                            (Int.toNat i5)
                            (Prod.fst
                                (rdk kClue
                                  (List.set r0 (Int.toNat i5)
                                    (k1, Prod.snd (rdk kClue r0 i5)))
                                  i5),
                              IntKind.wrap IntKind.i64 (k1 + 1),
                              Prod.snd
                                (Prod.snd
                                  (rdk kClue
                                    (List.set r0 (Int.toNat i5)
                                      (k1, Prod.snd (rdk kClue r0 i5)))
                                    i5))))
                          i5),
                      Prod.fst
                        (Prod.snd
                          (rdk kClue
                            (List.set
                              (List.set r0 (Int.toNat i5)
                                (k1, Prod.snd (rdk kClue r0 i5)))
                              (Int.toNat i5)
                              (Prod.fst
                                  (rdk kClue
                                    (List.set r0 (Int.toNat i5)
                                      (k1, Prod.snd (rdk kClue r0 i5)))
                                    i5),
                                IntKind.wrap IntKind.i64 (k1 + 1),
                                Prod.snd
                                  (Prod.snd
                                    (rdk kClue
                                      (List.set r0 (Int.toNat i5)
                                        (k1, Prod.snd (rdk kClue r0 i5)))
                                      i5))))
                            i5)),
                      IntKind.wrap IntKind.i64 (IntKind.wrap IntKind.i64 (k1 + 1) + 1)))
                  (IntKind.wrap IntKind.i64 (IntKind.wrap IntKind.i64 (IntKind.wrap IntKind.i64 (k1 + 1) + 1) + 1)) (IntKind.wrap IntKind.i64 (i5 + 1))
              else none
            else none
          else none
        else none
      else none
    else none
  else some (k1, r0)
noncomputable def w_markClueS_t0 (g1 : List (Int × (Int × Int)) → Int → Int → Option (Int × List (Int × Int × Int))) (a0 : List (Int × Int × Int)) (k1 : Int) : Option (Int × List (Int × Int × Int)) :=
  g1 a0 k1 0
theorem w_markClueS_ts : Tails c_w_markClueS.pts c_w_markClueS.round :=
  ⟨fun s => by
    obtain ⟨⟨r0, _⟩, ⟨_, k1, i5, _⟩, ⟨_, _, _⟩⟩ := s
    refine Tail.eq (Y := fun g => w_markClueS_t1 (fun r0 k1 i5 => g.1 ((r0, ()), ((), k1, i5, ()), ((), (), ()))) r0 k1 i5) ?_ (fun g => by kernel_rfl)
    simp only [w_markClueS_t1]; repeat (first | exact Tail.const _ | exact Tail.here _ | exact Tail.there (Tail.here _) | exact Tail.there (Tail.there (Tail.here _)) | exact Tail.there (Tail.there (Tail.there (Tail.here _))) | exact Tail.there (Tail.there (Tail.there (Tail.there (Tail.here _)))) | exact Tail.there (Tail.there (Tail.there (Tail.there (Tail.there (Tail.here _))))) | apply Tail.cond | (apply Tail.bind; intro _)), trivial⟩
theorem w_markClueS_hs : ∀ x, Tail c_w_markClueS.pts (fun g => c_w_markClueS.start g x) := fun x => by
    obtain ⟨a0, k1, _⟩ := x
    refine Tail.eq (Y := fun g => w_markClueS_t0 (fun r0 k1 i5 => g.1 ((r0, ()), ((), k1, i5, ()), ((), (), ()))) a0 k1) ?_ (fun g => by kernel_rfl)
    simp only [w_markClueS_t0]; repeat (first | exact Tail.const _ | exact Tail.here _ | exact Tail.there (Tail.here _) | exact Tail.there (Tail.there (Tail.here _)) | exact Tail.there (Tail.there (Tail.there (Tail.here _))) | exact Tail.there (Tail.there (Tail.there (Tail.there (Tail.here _)))) | exact Tail.there (Tail.there (Tail.there (Tail.there (Tail.there (Tail.here _))))) | apply Tail.cond | (apply Tail.bind; intro _))
noncomputable def w_markClueS_L1 (r0 : List (Int × (Int × Int))) (k1 : Int) (i5 : Int) : Option (Int × List (Int × Int × Int)) := c_w_markClueS.L.1 ((r0, ()), ((), k1, i5, ()), ((), (), ()))
theorem w_markClueS_u1 (r0 : List (Int × (Int × Int))) (k1 : Int) (i5 : Int) : w_markClueS_L1 r0 k1 i5 = w_markClueS_t1 w_markClueS_L1 r0 k1 i5 :=
  (congrArg (fun g => g.1 ((r0, ()), ((), k1, i5, ()), ((), (), ()))) (FnCx.L_eq w_markClueS_ts)).trans (by kernel_rfl)
noncomputable def w_markClueS (a0 : List (Int × Int × Int)) (k1 : Int) : Option (Int × List (Int × Int × Int)) := w_markClueS_t0 w_markClueS_L1 a0 k1
theorem w_markClueS_e (a0 : List (Int × Int × Int)) (k1 : Int) : c_w_markClueS.start c_w_markClueS.L (a0, k1, ()) = w_markClueS a0 k1 := by kernel_rfl
-- NICE tot
def mkClue (k : Int) : Int × Int × Int := (k, IntKind.wrap .i64 (k + 1), IntKind.wrap .i64 (IntKind.wrap .i64 (k + 1) + 1))
def nxClue (k : Int) : Int := IntKind.wrap .i64 (IntKind.wrap .i64 (IntKind.wrap .i64 (k + 1) + 1) + 1)
theorem nxClue_eq (k : Int) (h : 0 ≤ k) (h2 : k + (3 : Nat) ≤ 9223372036854775807) : nxClue k = k + (3 : Nat) := by
  unfold nxClue
  rw [wrapI (n := k + 1) (by omega) (by omega), wrapI (n := k + 1 + 1) (by omega) (by omega), wrapI (by omega) (by omega)]
  omega
noncomputable def w_markClueS_n (a : List (Int × Int × Int)) (k : Int) : Int × List (Int × Int × Int) := (markGK nxClue a k, markGL mkClue nxClue a k)
theorem w_markClueS_ok (a : List (Int × Int × Int)) (k : Int) (hb : BdI c_w_markClueS.ins (a, k, ())) : w_markClueS a k = some (w_markClueS_n a k) :=
  have hm : a.length ≤ maxLen := hb.1.1
  loop_markG (mk := mkClue) (nx := nxClue) (L := fun i r k => w_markClueS_L1 r k (i : Int)) (n := a.length)
    (fun i r k hr hi => by
      have hi' : i < r.length := by omega
      have e : ∀ v : Int × Int × Int, rdk kClue (r.set i v) i = v := fun v => rdk_set (k := kClue) hi'
      simp only [w_markClueS_u1 r k i, w_markClueS_t1, wrapS hi hm, Int.toNat_natCast, List.set_set, e, List.length_set]
      simp [hi', mkClue, nxClue]) (fun r k hr => by simp [w_markClueS_u1 r k a.length, w_markClueS_t1, hr]) a k rfl
noncomputable def F_w_markClueS : Ins c_w_markClueS.ins → (Int × List (Int × Int × Int)) := fun x => w_markClueS_n x.1 x.2.1
noncomputable def S_w_markClueS : FSpec := mkT c_w_markClueS.env.pre c_w_markClueS.ins c_w_markClueS.out c_w_markClueS.inj F_w_markClueS
theorem h_w_markClueS : Cert Try.prog 83 S_w_markClueS := FnCx.certT (c := c_w_markClueS) F_w_markClueS (tyOk _ _ _) (spOk trivial) (fun _ _ _ _ _ hs => noDr_ok) Try.func83 rfl rfl Try.ntmps83 (by kernel_rfl) rfl rfl (fun _ => rfl) w_markClueS_ts w_markClueS_hs (fun x hb => by
  obtain ⟨a0, k1, _⟩ := x
  exact (w_markClueS_e a0 k1).trans (w_markClueS_ok a0 k1 hb))
/-! laws.markPuzzle -/
noncomputable def c_w_markPuzzle : FnCx := { env := env 10 [(83, S_w_markClueS)] [], body := bodyOf Try.f22, res := [.tmp 4], ins := [.wr kPuzzle, .ro kint], out := [(kint, true)], T := Int × List (Int × Int × Int), fin := fun r => (r.1.1, r.2.1), inj := fun t => ((t.1, ()), (t.2, (), ())), pts := [], fuel := 400, dr := noDr }
noncomputable def w_markPuzzle (a0_Clues : List (Int × Int × Int)) (k1 : Int) : (Int × List (Int × Int × Int)) :=
  (markGK nxClue a0_Clues k1, markGL mkClue nxClue a0_Clues k1)
theorem w_markPuzzle_e (a0_Clues : List (Int × Int × Int)) (k1 : Int) : c_w_markPuzzle.start c_w_markPuzzle.L (a0_Clues, k1, ()) = some (w_markPuzzle a0_Clues k1) := by kernel_rfl
noncomputable def F_w_markPuzzle : Ins c_w_markPuzzle.ins → (Int × List (Int × Int × Int)) := fun x => w_markPuzzle x.1 x.2.1
noncomputable def S_w_markPuzzle : FSpec := mkT c_w_markPuzzle.env.pre c_w_markPuzzle.ins c_w_markPuzzle.out c_w_markPuzzle.inj F_w_markPuzzle
theorem h_w_markPuzzle : Cert Try.prog 22 S_w_markPuzzle := FnCx.certT (c := c_w_markPuzzle) F_w_markPuzzle (tyOk _ _ _) (spOk ⟨h_w_markClueS, fun _ _ _ => trivial, trivial⟩) (fun _ _ _ _ _ hs => noDr_ok) Try.func22 rfl rfl Try.ntmps22 (by kernel_rfl) rfl rfl (fun _ => rfl) trivial (fun x => .inl ⟨c_w_markPuzzle.start () x, fun _ => rfl⟩) (fun x hb => by
  obtain ⟨a0_Clues, k1, _⟩ := x
  exact w_markPuzzle_e a0_Clues k1)
/-! laws.markIntS -/
noncomputable def c_w_markIntS : FnCx := { env := env 19 [] [], body := bodyOf Try.f35, res := [.tmp 4], ins := [.wr kSint, .ro kint], out := [(kint, true)], T := Int × List Int, fin := fun r => (r.1.1, r.2.1), inj := fun t => ((t.1, ()), (t.2, (), ())), pts := [([.inLoop [1, 0, 1, 0, 0], .inBlock 0, .code [1, 1]], Shape.mk [Bs.row kint 3 true] [(0, Ss.one (Cs.sl 0)), (1, Ss.one (Cs.sc kint)), (5, Ss.one (Cs.sc kint))] [Ss.one (Cs.sl 0), Ss.one (Cs.any)])], fuel := 400, dr := noDr }
noncomputable def w_markIntS_t1 (g1 : List (Int) → Int → Int → Option (Int × List Int)) (r0 : List (Int)) (k1 : Int) (i5 : Int) : Option (Int × List Int) :=
  bif decide (i5 < (↑(List.length r0) : Int)) then
    bif decide (0 ≤ i5) then
      bif decide (i5 < (↑(List.length r0) : Int)) then g1 (List.set r0 (Int.toNat i5) k1) (IntKind.wrap IntKind.i64 (k1 + 1)) (IntKind.wrap IntKind.i64 (i5 + 1))
      else none
    else none
  else some (k1, r0)
noncomputable def w_markIntS_t0 (g1 : List (Int) → Int → Int → Option (Int × List Int)) (a0 : List Int) (k1 : Int) : Option (Int × List Int) :=
  g1 a0 k1 0
theorem w_markIntS_ts : Tails c_w_markIntS.pts c_w_markIntS.round :=
  ⟨fun s => by
    obtain ⟨⟨r0, _⟩, ⟨_, k1, i5, _⟩, ⟨_, _, _⟩⟩ := s
    refine Tail.eq (Y := fun g => w_markIntS_t1 (fun r0 k1 i5 => g.1 ((r0, ()), ((), k1, i5, ()), ((), (), ()))) r0 k1 i5) ?_ (fun g => by kernel_rfl)
    simp only [w_markIntS_t1]; repeat (first | exact Tail.const _ | exact Tail.here _ | exact Tail.there (Tail.here _) | exact Tail.there (Tail.there (Tail.here _)) | exact Tail.there (Tail.there (Tail.there (Tail.here _))) | exact Tail.there (Tail.there (Tail.there (Tail.there (Tail.here _)))) | exact Tail.there (Tail.there (Tail.there (Tail.there (Tail.there (Tail.here _))))) | apply Tail.cond | (apply Tail.bind; intro _)), trivial⟩
theorem w_markIntS_hs : ∀ x, Tail c_w_markIntS.pts (fun g => c_w_markIntS.start g x) := fun x => by
    obtain ⟨a0, k1, _⟩ := x
    refine Tail.eq (Y := fun g => w_markIntS_t0 (fun r0 k1 i5 => g.1 ((r0, ()), ((), k1, i5, ()), ((), (), ()))) a0 k1) ?_ (fun g => by kernel_rfl)
    simp only [w_markIntS_t0]; repeat (first | exact Tail.const _ | exact Tail.here _ | exact Tail.there (Tail.here _) | exact Tail.there (Tail.there (Tail.here _)) | exact Tail.there (Tail.there (Tail.there (Tail.here _))) | exact Tail.there (Tail.there (Tail.there (Tail.there (Tail.here _)))) | exact Tail.there (Tail.there (Tail.there (Tail.there (Tail.there (Tail.here _))))) | apply Tail.cond | (apply Tail.bind; intro _))
noncomputable def w_markIntS_L1 (r0 : List (Int)) (k1 : Int) (i5 : Int) : Option (Int × List Int) := c_w_markIntS.L.1 ((r0, ()), ((), k1, i5, ()), ((), (), ()))
theorem w_markIntS_u1 (r0 : List (Int)) (k1 : Int) (i5 : Int) : w_markIntS_L1 r0 k1 i5 = w_markIntS_t1 w_markIntS_L1 r0 k1 i5 :=
  (congrArg (fun g => g.1 ((r0, ()), ((), k1, i5, ()), ((), (), ()))) (FnCx.L_eq w_markIntS_ts)).trans (by kernel_rfl)
noncomputable def w_markIntS (a0 : List Int) (k1 : Int) : Option (Int × List Int) := w_markIntS_t0 w_markIntS_L1 a0 k1
theorem w_markIntS_e (a0 : List Int) (k1 : Int) : c_w_markIntS.start c_w_markIntS.L (a0, k1, ()) = w_markIntS a0 k1 := by kernel_rfl
-- NICE tot
noncomputable def w_markIntS_n (a : List Int) (k : Int) : Int × List Int := (markK a k, markL a k)
theorem w_markIntS_ok (a : List Int) (k : Int) (hb : BdI c_w_markIntS.ins (a, k, ())) : w_markIntS a k = some (w_markIntS_n a k) :=
  loop_mark (L := fun i r k => w_markIntS_L1 r k (i : Int)) (n := a.length)
    (fun i r k hr hi => by
      simp only [w_markIntS_u1 r k i, w_markIntS_t1, wrapS hi hb.1.1, Int.toNat_natCast]
      simp [hr, hi]) (fun r k hr => by simp [w_markIntS_u1 r k a.length, w_markIntS_t1, hr]) a k rfl
noncomputable def F_w_markIntS : Ins c_w_markIntS.ins → (Int × List Int) := fun x => w_markIntS_n x.1 x.2.1
noncomputable def S_w_markIntS : FSpec := mkT c_w_markIntS.env.pre c_w_markIntS.ins c_w_markIntS.out c_w_markIntS.inj F_w_markIntS
theorem h_w_markIntS : Cert Try.prog 35 S_w_markIntS := FnCx.certT (c := c_w_markIntS) F_w_markIntS (tyOk _ _ _) (spOk trivial) (fun _ _ _ _ _ hs => noDr_ok) Try.func35 rfl rfl Try.ntmps35 (by kernel_rfl) rfl rfl (fun _ => rfl) w_markIntS_ts w_markIntS_hs (fun x hb => by
  obtain ⟨a0, k1, _⟩ := x
  exact (w_markIntS_e a0 k1).trans (w_markIntS_ok a0 k1 hb))
/-! laws.heldIntS -/
noncomputable def c_w_heldIntS : FnCx := { env := env 21 [] [], body := bodyOf Try.f36, res := [.tmp 4], ins := [.ro kSint, .ro kint], out := [(kint, true)], T := Int, fin := fun r => r.1.1, inj := fun t => ((t, ()), ((), (), ())), pts := [([.inLoop [1, 0, 1, 0, 0], .inBlock 0, .code [1, 1]], Shape.mk [Bs.row kint 3 false] [(0, Ss.one (Cs.sl 0)), (1, Ss.one (Cs.sc kint)), (5, Ss.one (Cs.sc kint))] [Ss.one (Cs.any), Ss.one (Cs.any)])], fuel := 400, dr := noDr }
noncomputable def w_heldIntS_t1 (g1 : List (Int) → Int → Int → Option (Int)) (r0 : List (Int)) (k1 : Int) (i5 : Int) : Option Int :=
  bif decide (i5 < (↑(List.length r0) : Int)) then
    bif decide (0 ≤ i5) then
      bif decide (i5 < (↑(List.length r0) : Int)) then
        bif rdk kint r0 i5 != k1 then some (-1) else g1 r0 (IntKind.wrap IntKind.i64 (k1 + 1)) (IntKind.wrap IntKind.i64 (i5 + 1))
      else none
    else none
  else some k1
noncomputable def w_heldIntS_t0 (g1 : List (Int) → Int → Int → Option (Int)) (a0 : List Int) (k1 : Int) : Option Int :=
  g1 a0 k1 0
theorem w_heldIntS_ts : Tails c_w_heldIntS.pts c_w_heldIntS.round :=
  ⟨fun s => by
    obtain ⟨⟨r0, _⟩, ⟨_, k1, i5, _⟩, ⟨_, _, _⟩⟩ := s
    refine Tail.eq (Y := fun g => w_heldIntS_t1 (fun r0 k1 i5 => g.1 ((r0, ()), ((), k1, i5, ()), ((), (), ()))) r0 k1 i5) ?_ (fun g => by kernel_rfl)
    simp only [w_heldIntS_t1]; repeat (first | exact Tail.const _ | exact Tail.here _ | exact Tail.there (Tail.here _) | exact Tail.there (Tail.there (Tail.here _)) | exact Tail.there (Tail.there (Tail.there (Tail.here _))) | exact Tail.there (Tail.there (Tail.there (Tail.there (Tail.here _)))) | exact Tail.there (Tail.there (Tail.there (Tail.there (Tail.there (Tail.here _))))) | apply Tail.cond | (apply Tail.bind; intro _)), trivial⟩
theorem w_heldIntS_hs : ∀ x, Tail c_w_heldIntS.pts (fun g => c_w_heldIntS.start g x) := fun x => by
    obtain ⟨a0, k1, _⟩ := x
    refine Tail.eq (Y := fun g => w_heldIntS_t0 (fun r0 k1 i5 => g.1 ((r0, ()), ((), k1, i5, ()), ((), (), ()))) a0 k1) ?_ (fun g => by kernel_rfl)
    simp only [w_heldIntS_t0]; repeat (first | exact Tail.const _ | exact Tail.here _ | exact Tail.there (Tail.here _) | exact Tail.there (Tail.there (Tail.here _)) | exact Tail.there (Tail.there (Tail.there (Tail.here _))) | exact Tail.there (Tail.there (Tail.there (Tail.there (Tail.here _)))) | exact Tail.there (Tail.there (Tail.there (Tail.there (Tail.there (Tail.here _))))) | apply Tail.cond | (apply Tail.bind; intro _))
noncomputable def w_heldIntS_L1 (r0 : List (Int)) (k1 : Int) (i5 : Int) : Option Int := c_w_heldIntS.L.1 ((r0, ()), ((), k1, i5, ()), ((), (), ()))
theorem w_heldIntS_u1 (r0 : List (Int)) (k1 : Int) (i5 : Int) : w_heldIntS_L1 r0 k1 i5 = w_heldIntS_t1 w_heldIntS_L1 r0 k1 i5 :=
  (congrArg (fun g => g.1 ((r0, ()), ((), k1, i5, ()), ((), (), ()))) (FnCx.L_eq w_heldIntS_ts)).trans (by kernel_rfl)
noncomputable def w_heldIntS (a0 : List Int) (k1 : Int) : Option Int := w_heldIntS_t0 w_heldIntS_L1 a0 k1
theorem w_heldIntS_e (a0 : List Int) (k1 : Int) : c_w_heldIntS.start c_w_heldIntS.L (a0, k1, ()) = w_heldIntS a0 k1 := by kernel_rfl
-- NICE tot
noncomputable def w_heldIntS_n (a : List Int) (k : Int) : Int := heldL a k
theorem w_heldIntS_ok (a : List Int) (k : Int) (hb : BdI c_w_heldIntS.ins (a, k, ())) : w_heldIntS a k = some (w_heldIntS_n a k) :=
  loop_held (L := fun i k => w_heldIntS_L1 a k (i : Int)) (l := a)
    (fun i h k => by
      simp only [w_heldIntS_u1 a k i, w_heldIntS_t1, rdk_get (k := kint) h, wrapS h hb.1.1]
      simp [h]) (fun k => by simp [w_heldIntS_u1 a k a.length, w_heldIntS_t1]) k
noncomputable def F_w_heldIntS : Ins c_w_heldIntS.ins → Int := fun x => w_heldIntS_n x.1 x.2.1
noncomputable def S_w_heldIntS : FSpec := mkT c_w_heldIntS.env.pre c_w_heldIntS.ins c_w_heldIntS.out c_w_heldIntS.inj F_w_heldIntS
theorem h_w_heldIntS : Cert Try.prog 36 S_w_heldIntS := FnCx.certT (c := c_w_heldIntS) F_w_heldIntS (tyOk _ _ _) (spOk trivial) (fun _ _ _ _ _ hs => noDr_ok) Try.func36 rfl rfl Try.ntmps36 (by kernel_rfl) rfl rfl (fun _ => rfl) w_heldIntS_ts w_heldIntS_hs (fun x hb => by
  obtain ⟨a0, k1, _⟩ := x
  exact (w_heldIntS_e a0 k1).trans (w_heldIntS_ok a0 k1 hb))
/-! laws.FnExactLeftByClues -/
noncomputable def c_w_FnExactLeftByClues : FnCx := { env := env 96 [(24, S_w_szPuzzle), (26, S_w_toPuzzle), (32, S_s_LeftByClues), (33, S_i_LeftByClues), (34, S_w_eqIntS), (19, S_w_eqPuzzle), (22, S_w_markPuzzle), (35, S_w_markIntS), (36, S_w_heldIntS)] [], body := bodyOf Try.f7, res := [.tmp 2], ins := [.ro kwPuzzle], out := [(kbool, true)], T := Bool, fin := fun r => r.1.1, inj := fun t => ((t, ()), ((), ())), pts := [], fuel := 400, dr := evDr (env 96 [(24, S_w_szPuzzle), (26, S_w_toPuzzle), (32, S_s_LeftByClues), (33, S_i_LeftByClues), (34, S_w_eqIntS), (19, S_w_eqPuzzle), (22, S_w_markPuzzle), (35, S_w_markIntS), (36, S_w_heldIntS)] []) }
noncomputable def w_FnExactLeftByClues (aP0_Clues : List (Int × Int × Int)) : Option Bool :=
  bif decide (w_szPuzzle aP0_Clues 1048576 < 0) then some true
  else
    Option.bind (w_toPuzzle aP0_Clues) fun r =>
      Option.bind (s_LeftByClues r) fun r =>
        Option.bind (w_toPuzzle aP0_Clues) fun r_1 =>
          Option.bind (i_LeftByClues r_1) fun r_2 =>
            bif !w_eqIntS_n (Prod.fst r_2) (Prod.fst r) then some false
            else
              bif !Prod.snd r_2 == Prod.snd r then some false
              else
                Option.bind (w_toPuzzle aP0_Clues) fun r_3 =>
                  bif !w_eqPuzzle r_1 r_3 then some false
                  else
                    bif decide (markGK nxClue r_1 1 < 0) then some false
                    else
                      bif !w_eqIntS_n (Prod.fst r_2) (Prod.fst r) then some false
                      else
                        bif !Prod.snd r_2 == Prod.snd r then some false
                        else
                          bif decide (w_heldIntS_n (markL (Prod.fst r_2) 1) 1 < 0) then some false
                          else
                            bif w_heldIntS_n (markL (Prod.fst r_2) 1) 1 != markK (Prod.fst r_2) 1 then some false
                            else
                              Option.bind (w_toPuzzle aP0_Clues) fun r_4 =>
                                Option.bind (i_LeftByClues r_4) fun r_5 =>
                                  bif !w_eqIntS_n (Prod.fst r_5) (Prod.fst r) then some false
                                  else
                                    bif !Prod.snd r_5 == Prod.snd r then some false
                                    else
                                      bif decide (w_heldIntS_n (markL (Prod.fst r_2) 1) 1 < 0) then some false
                                      else bif w_heldIntS_n (markL (Prod.fst r_2) 1) 1 != markK (Prod.fst r_2) 1 then some false else some true
theorem w_FnExactLeftByClues_e (aP0_Clues : List (Int × Int × Int)) : c_w_FnExactLeftByClues.start c_w_FnExactLeftByClues.L (aP0_Clues, ()) = w_FnExactLeftByClues aP0_Clues := by kernel_rfl
noncomputable def F_w_FnExactLeftByClues : Ins c_w_FnExactLeftByClues.ins → Option Bool := fun x => w_FnExactLeftByClues x.1
noncomputable def S_w_FnExactLeftByClues : FSpec := mkF c_w_FnExactLeftByClues.env.pre c_w_FnExactLeftByClues.ins c_w_FnExactLeftByClues.out c_w_FnExactLeftByClues.inj F_w_FnExactLeftByClues
theorem h_w_FnExactLeftByClues : Cert Try.prog 7 S_w_FnExactLeftByClues := FnCx.certF (c := c_w_FnExactLeftByClues) F_w_FnExactLeftByClues (tyOk _ _ _) (spOk ⟨h_w_szPuzzle, fun _ _ _ => trivial, ⟨h_w_toPuzzle, fun _ _ _ => trivial, ⟨h_s_LeftByClues, fun _ _ _ => trivial, ⟨h_i_LeftByClues, fun _ _ _ => trivial, ⟨h_w_eqIntS, fun _ _ _ => trivial, ⟨h_w_eqPuzzle, fun _ _ _ => trivial, ⟨h_w_markPuzzle, fun _ _ _ => trivial, ⟨h_w_markIntS, fun _ _ _ => trivial, ⟨h_w_heldIntS, fun _ _ _ => trivial, trivial⟩⟩⟩⟩⟩⟩⟩⟩⟩) (fun _ _ _ _ _ hs => evDr_ok (tyOk _ _ _) hs follows) Try.func7 rfl rfl Try.ntmps7 (by kernel_rfl) rfl rfl (fun _ => rfl) trivial (fun x => .inl ⟨c_w_FnExactLeftByClues.start () x, fun _ => rfl⟩) (fun x t hb ht => by
  obtain ⟨aP0_Clues, _⟩ := x
  exact (w_FnExactLeftByClues_e aP0_Clues).trans ht)
/-! spec.SureStrides -/
noncomputable def c_s_SureStrides : FnCx := { env := env 54 [(86, S_s_pzGood), (87, S_s_pzAll), (91, S_s_pzValue)] [], body := bodyOf Try.f37, res := [.tmp 2, .tmp 3, .tmp 4], ins := [.ro kPuzzle], out := [(kSint, true), (kSint, true), (kbool, true)], T := List Int × List Int × Bool, fin := fun r => (r.1.1, r.1.2.1, r.1.2.2.1), inj := fun t => ((t.1, t.2.1, t.2.2, ()), ((), ())), pts := [([.inLoop [1, 1, 1, 1, 1, 0, 1, 0, 0], .inBlock 0, .code [1, 1, 1, 1, 1, 1]], Shape.mk [Bs.row kStairs 31 false, Bs.row kint 3 true, Bs.row kint 3 true] [(5, Ss.one (Cs.sl 0)), (6, Ss.one (Cs.sl 1)), (7, Ss.one (Cs.sl 2)), (8, Ss.one (Cs.sc kint))] [Ss.one (Cs.any)]), ([.inLoop [1, 1, 1, 1, 1, 0, 1, 0, 0, 1, 0, 0, 1, 0, 1, 0, 0], .inBlock 2, .code [1, 1, 1, 1, 1, 0, 1, 0, 0, 1, 0, 0, 1, 1], .inBlock 1, .code [1, 1, 1, 1, 1, 0, 1, 0, 0, 1, 1], .inLoop [1, 1, 1, 1, 1, 0, 1, 0, 0], .inBlock 0, .code [1, 1, 1, 1, 1, 1]], Shape.mk [Bs.row kStairs 31 false, Bs.row kint 3 true, Bs.row kint 3 true] [(5, Ss.one (Cs.sl 0)), (6, Ss.one (Cs.sl 1)), (7, Ss.one (Cs.sl 2)), (8, Ss.one (Cs.sc kint)), (9, Ss.one (Cs.sc kint)), (25, Ss.one (Cs.sl 0)), (26, Ss.one (Cs.sc kint)), (27, Ss.one (Cs.sc kint))] [Ss.one (Cs.any)])], fuel := 400, dr := noDr }
noncomputable def s_SureStrides_t1 (g1 : List ((Int × (List (Int) × List (Int)))) → List (Int) → List (Int) → Int → Option (List Int × List Int × Bool)) (g2 : List ((Int × (List (Int) × List (Int)))) → List (Int) → List (Int) → Int → Int → Int → Int → Option (List Int × List Int × Bool)) (r0 : List ((Int × (List (Int) × List (Int))))) (r1 : List (Int)) (r2 : List (Int)) (stride8 : Int) : Option (List Int × List Int × Bool) :=
  bif decide (stride8 ≤ 3) then g2 r0 r1 r2 stride8 0 (↑(List.length r0) : Int) 0 else some (r1, r2, true)
noncomputable def s_SureStrides_t2 (g1 : List ((Int × (List (Int) × List (Int)))) → List (Int) → List (Int) → Int → Option (List Int × List Int × Bool)) (g2 : List ((Int × (List (Int) × List (Int)))) → List (Int) → List (Int) → Int → Int → Int → Int → Option (List Int × List Int × Bool)) (r0 : List ((Int × (List (Int) × List (Int))))) (r1 : List (Int)) (r2 : List (Int)) (stride8 : Int) (n9 : Int) (s26 : Int) (s27 : Int) : Option (List Int × List Int × Bool) :=
  bif decide (s27 < s26) then
    bif decide (0 ≤ s27) then
      bif decide (s27 < (↑(List.length r0) : Int)) then
        Option.bind
          (s_pzValue 2 stride8
            (Prod.fst (rdk kStairs r0 s27))
            (Prod.fst (Prod.snd (rdk kStairs r0 s27)))
            (Prod.snd (Prod.snd (rdk kStairs r0 s27))))
          fun r => g2 r0 r1 r2 stride8 (IntKind.wrap IntKind.i64 (n9 + r)) s26 (IntKind.wrap IntKind.i64 (s27 + 1))
      else none
    else none
  else
    bif n9 == (↑(List.length r0) : Int) then
      bif Nat.ble (List.length r1 + 1) 4294967296 then g1 r0 (r1 ++ [stride8]) r2 (IntKind.wrap IntKind.i64 (stride8 + 1)) else none
    else
      bif n9 == 0 then bif Nat.ble (List.length r2 + 1) 4294967296 then g1 r0 r1 (r2 ++ [stride8]) (IntKind.wrap IntKind.i64 (stride8 + 1)) else none
      else g1 r0 r1 r2 (IntKind.wrap IntKind.i64 (stride8 + 1))
noncomputable def s_SureStrides_t0 (g1 : List ((Int × (List (Int) × List (Int)))) → List (Int) → List (Int) → Int → Option (List Int × List Int × Bool)) (g2 : List ((Int × (List (Int) × List (Int)))) → List (Int) → List (Int) → Int → Int → Int → Int → Option (List Int × List Int × Bool)) (p0_Clues : List (Int × Int × Int)) : Option (List Int × List Int × Bool) :=
  bif !s_pzGood_n p0_Clues then some ([], [], false)
  else Option.bind (s_pzAll p0_Clues) fun r => bif (↑(List.length r) : Int) == 0 then some ([], [], false) else g1 r [] [] 1
theorem s_SureStrides_ts : Tails c_s_SureStrides.pts c_s_SureStrides.round :=
  ⟨fun s => by
    obtain ⟨⟨r0, r1, r2, _⟩, ⟨_, _, _, stride8, _⟩, ⟨_, _⟩⟩ := s
    refine Tail.eq (Y := fun g => s_SureStrides_t1 (fun r0 r1 r2 stride8 => g.1 ((r0, r1, r2, ()), ((), (), (), stride8, ()), ((), ()))) (fun r0 r1 r2 stride8 n9 s26 s27 => g.2.1 ((r0, r1, r2, ()), ((), (), (), stride8, n9, (), s26, s27, ()), ((), ()))) r0 r1 r2 stride8) ?_ (fun g => by kernel_rfl)
    simp only [s_SureStrides_t1]; repeat (first | exact Tail.const _ | exact Tail.here _ | exact Tail.there (Tail.here _) | exact Tail.there (Tail.there (Tail.here _)) | exact Tail.there (Tail.there (Tail.there (Tail.here _))) | exact Tail.there (Tail.there (Tail.there (Tail.there (Tail.here _)))) | exact Tail.there (Tail.there (Tail.there (Tail.there (Tail.there (Tail.here _))))) | apply Tail.cond | (apply Tail.bind; intro _)),
  fun s => by
    obtain ⟨⟨r0, r1, r2, _⟩, ⟨_, _, _, stride8, n9, _, s26, s27, _⟩, ⟨_, _⟩⟩ := s
    refine Tail.eq (Y := fun g => s_SureStrides_t2 (fun r0 r1 r2 stride8 => g.1 ((r0, r1, r2, ()), ((), (), (), stride8, ()), ((), ()))) (fun r0 r1 r2 stride8 n9 s26 s27 => g.2.1 ((r0, r1, r2, ()), ((), (), (), stride8, n9, (), s26, s27, ()), ((), ()))) r0 r1 r2 stride8 n9 s26 s27) ?_ (fun g => by kernel_rfl)
    simp only [s_SureStrides_t2]; repeat (first | exact Tail.const _ | exact Tail.here _ | exact Tail.there (Tail.here _) | exact Tail.there (Tail.there (Tail.here _)) | exact Tail.there (Tail.there (Tail.there (Tail.here _))) | exact Tail.there (Tail.there (Tail.there (Tail.there (Tail.here _)))) | exact Tail.there (Tail.there (Tail.there (Tail.there (Tail.there (Tail.here _))))) | apply Tail.cond | (apply Tail.bind; intro _)), trivial⟩
theorem s_SureStrides_hs : ∀ x, Tail c_s_SureStrides.pts (fun g => c_s_SureStrides.start g x) := fun x => by
    obtain ⟨p0_Clues, _⟩ := x
    refine Tail.eq (Y := fun g => s_SureStrides_t0 (fun r0 r1 r2 stride8 => g.1 ((r0, r1, r2, ()), ((), (), (), stride8, ()), ((), ()))) (fun r0 r1 r2 stride8 n9 s26 s27 => g.2.1 ((r0, r1, r2, ()), ((), (), (), stride8, n9, (), s26, s27, ()), ((), ()))) p0_Clues) ?_ (fun g => by kernel_rfl)
    simp only [s_SureStrides_t0]; repeat (first | exact Tail.const _ | exact Tail.here _ | exact Tail.there (Tail.here _) | exact Tail.there (Tail.there (Tail.here _)) | exact Tail.there (Tail.there (Tail.there (Tail.here _))) | exact Tail.there (Tail.there (Tail.there (Tail.there (Tail.here _)))) | exact Tail.there (Tail.there (Tail.there (Tail.there (Tail.there (Tail.here _))))) | apply Tail.cond | (apply Tail.bind; intro _))
noncomputable def s_SureStrides_L1 (r0 : List ((Int × (List (Int) × List (Int))))) (r1 : List (Int)) (r2 : List (Int)) (stride8 : Int) : Option (List Int × List Int × Bool) := c_s_SureStrides.L.1 ((r0, r1, r2, ()), ((), (), (), stride8, ()), ((), ()))
noncomputable def s_SureStrides_L2 (r0 : List ((Int × (List (Int) × List (Int))))) (r1 : List (Int)) (r2 : List (Int)) (stride8 : Int) (n9 : Int) (s26 : Int) (s27 : Int) : Option (List Int × List Int × Bool) := c_s_SureStrides.L.2.1 ((r0, r1, r2, ()), ((), (), (), stride8, n9, (), s26, s27, ()), ((), ()))
theorem s_SureStrides_u1 (r0 : List ((Int × (List (Int) × List (Int))))) (r1 : List (Int)) (r2 : List (Int)) (stride8 : Int) : s_SureStrides_L1 r0 r1 r2 stride8 = s_SureStrides_t1 s_SureStrides_L1 s_SureStrides_L2 r0 r1 r2 stride8 :=
  (congrArg (fun g => g.1 ((r0, r1, r2, ()), ((), (), (), stride8, ()), ((), ()))) (FnCx.L_eq s_SureStrides_ts)).trans (by kernel_rfl)
theorem s_SureStrides_u2 (r0 : List ((Int × (List (Int) × List (Int))))) (r1 : List (Int)) (r2 : List (Int)) (stride8 : Int) (n9 : Int) (s26 : Int) (s27 : Int) : s_SureStrides_L2 r0 r1 r2 stride8 n9 s26 s27 = s_SureStrides_t2 s_SureStrides_L1 s_SureStrides_L2 r0 r1 r2 stride8 n9 s26 s27 :=
  (congrArg (fun g => g.2.1 ((r0, r1, r2, ()), ((), (), (), stride8, n9, (), s26, s27, ()), ((), ()))) (FnCx.L_eq s_SureStrides_ts)).trans (by kernel_rfl)
noncomputable def s_SureStrides (p0_Clues : List (Int × Int × Int)) : Option (List Int × List Int × Bool) := s_SureStrides_t0 s_SureStrides_L1 s_SureStrides_L2 p0_Clues
theorem s_SureStrides_e (p0_Clues : List (Int × Int × Int)) : c_s_SureStrides.start c_s_SureStrides.L (p0_Clues, ()) = s_SureStrides p0_Clues := by kernel_rfl
noncomputable def F_s_SureStrides : Ins c_s_SureStrides.ins → Option (List Int × List Int × Bool) := fun x => s_SureStrides x.1
noncomputable def S_s_SureStrides : FSpec := mkF c_s_SureStrides.env.pre c_s_SureStrides.ins c_s_SureStrides.out c_s_SureStrides.inj F_s_SureStrides
theorem h_s_SureStrides : Cert Try.prog 37 S_s_SureStrides := FnCx.certF (c := c_s_SureStrides) F_s_SureStrides (tyOk _ _ _) (spOk ⟨h_s_pzGood, fun _ _ _ => trivial, ⟨h_s_pzAll, fun _ _ _ => trivial, ⟨h_s_pzValue, fun _ _ _ => trivial, trivial⟩⟩⟩) (fun _ _ _ _ _ hs => noDr_ok) Try.func37 rfl rfl Try.ntmps37 (by kernel_rfl) rfl rfl (fun _ => rfl) s_SureStrides_ts s_SureStrides_hs (fun x t hb ht => by
  obtain ⟨p0_Clues, _⟩ := x
  exact (s_SureStrides_e p0_Clues).trans ht)
/-! impl.SureStrides -/
noncomputable def c_i_SureStrides : FnCx := { env := env 61 [(45, S_i_Solutions), (92, S_slices_Contains_int)] [], body := bodyOf Try.f38, res := [.tmp 2, .tmp 3, .tmp 4], ins := [.ro kPuzzle], out := [(kSint, true), (kSint, true), (kbool, true)], T := List Int × List Int × Bool, fin := fun r => (r.1.1, r.1.2.1, r.1.2.2.1), inj := fun t => ((t.1, t.2.1, t.2.2, ()), ((), ())), pts := [([.inLoop [1, 1, 1, 1, 0, 1, 0, 0], .inBlock 0, .code [1, 1, 1, 1, 1]], Shape.mk [Bs.row kStairs 31 false, Bs.row kint 3 true, Bs.row kint 3 true] [(5, Ss.one (Cs.sl 0)), (7, Ss.one (Cs.sl 1)), (8, Ss.one (Cs.sl 2)), (9, Ss.one (Cs.sc kint))] [Ss.one (Cs.any)]), ([.inLoop [1, 1, 1, 1, 0, 1, 0, 0, 1, 0, 0, 1, 0, 1, 0, 0], .inBlock 2, .code [1, 1, 1, 1, 0, 1, 0, 0, 1, 0, 0, 1, 1], .inBlock 1, .code [1, 1, 1, 1, 0, 1, 0, 0, 1, 1], .inLoop [1, 1, 1, 1, 0, 1, 0, 0], .inBlock 0, .code [1, 1, 1, 1, 1]], Shape.mk [Bs.row kStairs 31 false, Bs.row kint 3 true, Bs.row kint 3 true] [(5, Ss.one (Cs.sl 0)), (7, Ss.one (Cs.sl 1)), (8, Ss.one (Cs.sl 2)), (9, Ss.one (Cs.sc kint)), (10, Ss.one (Cs.sc kint)), (31, Ss.one (Cs.sl 0)), (32, Ss.one (Cs.sc kint)), (33, Ss.one (Cs.sc kint))] [Ss.one (Cs.any)])], fuel := 400, dr := noDr }
noncomputable def i_SureStrides_t1 (g1 : List ((Int × (List (Int) × List (Int)))) → List (Int) → List (Int) → Int → Option (List Int × List Int × Bool)) (g2 : List ((Int × (List (Int) × List (Int)))) → List (Int) → List (Int) → Int → Int → Int → Int → Option (List Int × List Int × Bool)) (r0 : List ((Int × (List (Int) × List (Int))))) (r1 : List (Int)) (r2 : List (Int)) (n9 : Int) : Option (List Int × List Int × Bool) :=
  bif decide (n9 ≤ 3) then g2 r0 r1 r2 n9 0 (↑(List.length r0) : Int) 0 else some (r1, r2, true)
noncomputable def i_SureStrides_t2 (g1 : List ((Int × (List (Int) × List (Int)))) → List (Int) → List (Int) → Int → Option (List Int × List Int × Bool)) (g2 : List ((Int × (List (Int) × List (Int)))) → List (Int) → List (Int) → Int → Int → Int → Int → Option (List Int × List Int × Bool)) (r0 : List ((Int × (List (Int) × List (Int))))) (r1 : List (Int)) (r2 : List (Int)) (n9 : Int) (many10 : Int) (s32 : Int) (s33 : Int) : Option (List Int × List Int × Bool) :=
  bif decide (s33 < s32) then
    bif decide (0 ≤ s33) then
      bif decide (s33 < (↑(List.length r0) : Int)) then
        bif
            slices_Contains_int
              (Prod.fst (Prod.snd (rdk kStairs r0 s33)))
              n9 then
          g2 r0 r1 r2 n9 (IntKind.wrap IntKind.i64 (many10 + 1)) s32 (IntKind.wrap IntKind.i64 (s33 + 1))
        else g2 r0 r1 r2 n9 many10 s32 (IntKind.wrap IntKind.i64 (s33 + 1))
      else none
    else none
  else
    bif many10 == (↑(List.length r0) : Int) then
      bif Nat.ble (List.length r1 + 1) 4294967296 then g1 r0 (r1 ++ [n9]) r2 (IntKind.wrap IntKind.i64 (n9 + 1)) else none
    else
      bif many10 == 0 then bif Nat.ble (List.length r2 + 1) 4294967296 then g1 r0 r1 (r2 ++ [n9]) (IntKind.wrap IntKind.i64 (n9 + 1)) else none
      else g1 r0 r1 r2 (IntKind.wrap IntKind.i64 (n9 + 1))
noncomputable def i_SureStrides_t0 (g1 : List ((Int × (List (Int) × List (Int)))) → List (Int) → List (Int) → Int → Option (List Int × List Int × Bool)) (g2 : List ((Int × (List (Int) × List (Int)))) → List (Int) → List (Int) → Int → Int → Int → Int → Option (List Int × List Int × Bool)) (p0_Clues : List (Int × Int × Int)) : Option (List Int × List Int × Bool) :=
  Option.bind (i_Solutions p0_Clues) fun r =>
    bif !Prod.snd r then some ([], [], false) else bif (↑(List.length (Prod.fst r)) : Int) == 0 then some ([], [], false) else g1 (Prod.fst r) [] [] 1
theorem i_SureStrides_ts : Tails c_i_SureStrides.pts c_i_SureStrides.round :=
  ⟨fun s => by
    obtain ⟨⟨r0, r1, r2, _⟩, ⟨_, _, _, n9, _⟩, ⟨_, _⟩⟩ := s
    refine Tail.eq (Y := fun g => i_SureStrides_t1 (fun r0 r1 r2 n9 => g.1 ((r0, r1, r2, ()), ((), (), (), n9, ()), ((), ()))) (fun r0 r1 r2 n9 many10 s32 s33 => g.2.1 ((r0, r1, r2, ()), ((), (), (), n9, many10, (), s32, s33, ()), ((), ()))) r0 r1 r2 n9) ?_ (fun g => by kernel_rfl)
    simp only [i_SureStrides_t1]; repeat (first | exact Tail.const _ | exact Tail.here _ | exact Tail.there (Tail.here _) | exact Tail.there (Tail.there (Tail.here _)) | exact Tail.there (Tail.there (Tail.there (Tail.here _))) | exact Tail.there (Tail.there (Tail.there (Tail.there (Tail.here _)))) | exact Tail.there (Tail.there (Tail.there (Tail.there (Tail.there (Tail.here _))))) | apply Tail.cond | (apply Tail.bind; intro _)),
  fun s => by
    obtain ⟨⟨r0, r1, r2, _⟩, ⟨_, _, _, n9, many10, _, s32, s33, _⟩, ⟨_, _⟩⟩ := s
    refine Tail.eq (Y := fun g => i_SureStrides_t2 (fun r0 r1 r2 n9 => g.1 ((r0, r1, r2, ()), ((), (), (), n9, ()), ((), ()))) (fun r0 r1 r2 n9 many10 s32 s33 => g.2.1 ((r0, r1, r2, ()), ((), (), (), n9, many10, (), s32, s33, ()), ((), ()))) r0 r1 r2 n9 many10 s32 s33) ?_ (fun g => by kernel_rfl)
    simp only [i_SureStrides_t2]; repeat (first | exact Tail.const _ | exact Tail.here _ | exact Tail.there (Tail.here _) | exact Tail.there (Tail.there (Tail.here _)) | exact Tail.there (Tail.there (Tail.there (Tail.here _))) | exact Tail.there (Tail.there (Tail.there (Tail.there (Tail.here _)))) | exact Tail.there (Tail.there (Tail.there (Tail.there (Tail.there (Tail.here _))))) | apply Tail.cond | (apply Tail.bind; intro _)), trivial⟩
theorem i_SureStrides_hs : ∀ x, Tail c_i_SureStrides.pts (fun g => c_i_SureStrides.start g x) := fun x => by
    obtain ⟨p0_Clues, _⟩ := x
    refine Tail.eq (Y := fun g => i_SureStrides_t0 (fun r0 r1 r2 n9 => g.1 ((r0, r1, r2, ()), ((), (), (), n9, ()), ((), ()))) (fun r0 r1 r2 n9 many10 s32 s33 => g.2.1 ((r0, r1, r2, ()), ((), (), (), n9, many10, (), s32, s33, ()), ((), ()))) p0_Clues) ?_ (fun g => by kernel_rfl)
    simp only [i_SureStrides_t0]; repeat (first | exact Tail.const _ | exact Tail.here _ | exact Tail.there (Tail.here _) | exact Tail.there (Tail.there (Tail.here _)) | exact Tail.there (Tail.there (Tail.there (Tail.here _))) | exact Tail.there (Tail.there (Tail.there (Tail.there (Tail.here _)))) | exact Tail.there (Tail.there (Tail.there (Tail.there (Tail.there (Tail.here _))))) | apply Tail.cond | (apply Tail.bind; intro _))
noncomputable def i_SureStrides_L1 (r0 : List ((Int × (List (Int) × List (Int))))) (r1 : List (Int)) (r2 : List (Int)) (n9 : Int) : Option (List Int × List Int × Bool) := c_i_SureStrides.L.1 ((r0, r1, r2, ()), ((), (), (), n9, ()), ((), ()))
noncomputable def i_SureStrides_L2 (r0 : List ((Int × (List (Int) × List (Int))))) (r1 : List (Int)) (r2 : List (Int)) (n9 : Int) (many10 : Int) (s32 : Int) (s33 : Int) : Option (List Int × List Int × Bool) := c_i_SureStrides.L.2.1 ((r0, r1, r2, ()), ((), (), (), n9, many10, (), s32, s33, ()), ((), ()))
theorem i_SureStrides_u1 (r0 : List ((Int × (List (Int) × List (Int))))) (r1 : List (Int)) (r2 : List (Int)) (n9 : Int) : i_SureStrides_L1 r0 r1 r2 n9 = i_SureStrides_t1 i_SureStrides_L1 i_SureStrides_L2 r0 r1 r2 n9 :=
  (congrArg (fun g => g.1 ((r0, r1, r2, ()), ((), (), (), n9, ()), ((), ()))) (FnCx.L_eq i_SureStrides_ts)).trans (by kernel_rfl)
theorem i_SureStrides_u2 (r0 : List ((Int × (List (Int) × List (Int))))) (r1 : List (Int)) (r2 : List (Int)) (n9 : Int) (many10 : Int) (s32 : Int) (s33 : Int) : i_SureStrides_L2 r0 r1 r2 n9 many10 s32 s33 = i_SureStrides_t2 i_SureStrides_L1 i_SureStrides_L2 r0 r1 r2 n9 many10 s32 s33 :=
  (congrArg (fun g => g.2.1 ((r0, r1, r2, ()), ((), (), (), n9, many10, (), s32, s33, ()), ((), ()))) (FnCx.L_eq i_SureStrides_ts)).trans (by kernel_rfl)
noncomputable def i_SureStrides (p0_Clues : List (Int × Int × Int)) : Option (List Int × List Int × Bool) := i_SureStrides_t0 i_SureStrides_L1 i_SureStrides_L2 p0_Clues
theorem i_SureStrides_e (p0_Clues : List (Int × Int × Int)) : c_i_SureStrides.start c_i_SureStrides.L (p0_Clues, ()) = i_SureStrides p0_Clues := by kernel_rfl
noncomputable def F_i_SureStrides : Ins c_i_SureStrides.ins → Option (List Int × List Int × Bool) := fun x => i_SureStrides x.1
noncomputable def S_i_SureStrides : FSpec := mkF c_i_SureStrides.env.pre c_i_SureStrides.ins c_i_SureStrides.out c_i_SureStrides.inj F_i_SureStrides
theorem h_i_SureStrides : Cert Try.prog 38 S_i_SureStrides := FnCx.certF (c := c_i_SureStrides) F_i_SureStrides (tyOk _ _ _) (spOk ⟨h_i_Solutions, fun _ _ _ => trivial, ⟨h_slices_Contains_int, fun _ _ _ => trivial, trivial⟩⟩) (fun _ _ _ _ _ hs => noDr_ok) Try.func38 rfl rfl Try.ntmps38 (by kernel_rfl) rfl rfl (fun _ => rfl) i_SureStrides_ts i_SureStrides_hs (fun x t hb ht => by
  obtain ⟨p0_Clues, _⟩ := x
  exact (i_SureStrides_e p0_Clues).trans ht)
/-! laws.FnExactSureStrides -/
noncomputable def c_w_FnExactSureStrides : FnCx := { env := env 133 [(24, S_w_szPuzzle), (26, S_w_toPuzzle), (37, S_s_SureStrides), (38, S_i_SureStrides), (34, S_w_eqIntS), (19, S_w_eqPuzzle), (22, S_w_markPuzzle), (35, S_w_markIntS), (36, S_w_heldIntS)] [], body := bodyOf Try.f8, res := [.tmp 2], ins := [.ro kwPuzzle], out := [(kbool, true)], T := Bool, fin := fun r => r.1.1, inj := fun t => ((t, ()), ((), ())), pts := [], fuel := 400, dr := evDr (env 133 [(24, S_w_szPuzzle), (26, S_w_toPuzzle), (37, S_s_SureStrides), (38, S_i_SureStrides), (34, S_w_eqIntS), (19, S_w_eqPuzzle), (22, S_w_markPuzzle), (35, S_w_markIntS), (36, S_w_heldIntS)] []) }
noncomputable def w_FnExactSureStrides (aP0_Clues : List (Int × Int × Int)) : Option Bool :=
  bif decide (w_szPuzzle aP0_Clues 1048576 < 0) then some true
  else
    Option.bind (w_toPuzzle aP0_Clues) fun r =>
      Option.bind (s_SureStrides r) fun r =>
        Option.bind (w_toPuzzle aP0_Clues) fun r_1 =>
          Option.bind (i_SureStrides r_1) fun r_2 =>
            bif !w_eqIntS_n (Prod.fst r_2) (Prod.fst r) then some false
            else
              bif !w_eqIntS_n (Prod.fst (Prod.snd r_2)) (Prod.fst (Prod.snd r)) then some false
              else
                bif !Prod.snd (Prod.snd r_2) == Prod.snd (Prod.snd r) then some false
                else
                  Option.bind (w_toPuzzle aP0_Clues) fun r_3 =>
                    bif !w_eqPuzzle r_1 r_3 then some false
                    else
                      bif decide (markGK nxClue r_1 1 < 0) then some false
                      else
                        bif !w_eqIntS_n (Prod.fst r_2) (Prod.fst r) then some false
                        else
                          bif !w_eqIntS_n (Prod.fst (Prod.snd r_2)) (Prod.fst (Prod.snd r)) then some false
                          else
                            bif !Prod.snd (Prod.snd r_2) == Prod.snd (Prod.snd r) then some false
                            else
                              bif decide (w_heldIntS_n (markL (Prod.fst r_2) 1) 1 < 0) then some false
                              else
                                bif
                                    decide
                                      (w_heldIntS_n (markL (Prod.fst (Prod.snd r_2)) (markK (Prod.fst r_2) 1)) (w_heldIntS_n (markL (Prod.fst r_2) 1) 1) < 0) then
                                  some false
                                else
                                  bif
                                      w_heldIntS_n (markL (Prod.fst (Prod.snd r_2)) (markK (Prod.fst r_2) 1)) (w_heldIntS_n (markL (Prod.fst r_2) 1) 1) !=
                                        markK (Prod.fst (Prod.snd r_2)) (markK (Prod.fst r_2) 1) then
                                    some false
                                  else
                                    Option.bind (w_toPuzzle aP0_Clues) fun r_4 =>
                                      Option.bind (i_SureStrides r_4) fun r_5 =>
                                        bif !w_eqIntS_n (Prod.fst r_5) (Prod.fst r) then some false
                                        else
                                          bif !w_eqIntS_n (Prod.fst (Prod.snd r_5)) (Prod.fst (Prod.snd r)) then some false
                                          else
                                            bif !Prod.snd (Prod.snd r_5) == Prod.snd (Prod.snd r) then some false
                                            else
                                              bif decide (w_heldIntS_n (markL (Prod.fst r_2) 1) 1 < 0) then some false
                                              else
                                                bif
                                                    decide
                                                      (w_heldIntS_n (markL (Prod.fst (Prod.snd r_2)) (markK (Prod.fst r_2) 1))
                                                          (w_heldIntS_n (markL (Prod.fst r_2) 1) 1) <
                                                        0) then
                                                  some false
                                                else
                                                  bif
                                                      w_heldIntS_n (markL (Prod.fst (Prod.snd r_2)) (markK (Prod.fst r_2) 1))
                                                          (w_heldIntS_n (markL (Prod.fst r_2) 1) 1) !=
                                                        markK (Prod.fst (Prod.snd r_2)) (markK (Prod.fst r_2) 1) then
                                                    some false
                                                  else some true
theorem w_FnExactSureStrides_e (aP0_Clues : List (Int × Int × Int)) : c_w_FnExactSureStrides.start c_w_FnExactSureStrides.L (aP0_Clues, ()) = w_FnExactSureStrides aP0_Clues := by kernel_rfl
noncomputable def F_w_FnExactSureStrides : Ins c_w_FnExactSureStrides.ins → Option Bool := fun x => w_FnExactSureStrides x.1
noncomputable def S_w_FnExactSureStrides : FSpec := mkF c_w_FnExactSureStrides.env.pre c_w_FnExactSureStrides.ins c_w_FnExactSureStrides.out c_w_FnExactSureStrides.inj F_w_FnExactSureStrides
theorem h_w_FnExactSureStrides : Cert Try.prog 8 S_w_FnExactSureStrides := FnCx.certF (c := c_w_FnExactSureStrides) F_w_FnExactSureStrides (tyOk _ _ _) (spOk ⟨h_w_szPuzzle, fun _ _ _ => trivial, ⟨h_w_toPuzzle, fun _ _ _ => trivial, ⟨h_s_SureStrides, fun _ _ _ => trivial, ⟨h_i_SureStrides, fun _ _ _ => trivial, ⟨h_w_eqIntS, fun _ _ _ => trivial, ⟨h_w_eqPuzzle, fun _ _ _ => trivial, ⟨h_w_markPuzzle, fun _ _ _ => trivial, ⟨h_w_markIntS, fun _ _ _ => trivial, ⟨h_w_heldIntS, fun _ _ _ => trivial, trivial⟩⟩⟩⟩⟩⟩⟩⟩⟩) (fun _ _ _ _ _ hs => evDr_ok (tyOk _ _ _) hs follows) Try.func8 rfl rfl Try.ntmps8 (by kernel_rfl) rfl rfl (fun _ => rfl) trivial (fun x => .inl ⟨c_w_FnExactSureStrides.start () x, fun _ => rfl⟩) (fun x t hb ht => by
  obtain ⟨aP0_Clues, _⟩ := x
  exact (w_FnExactSureStrides_e aP0_Clues).trans ht)
end Go.Proofs.Ytbemnabojjiikaa.V
