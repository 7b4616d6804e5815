/- Functions of the program, as plain functions. No condition. -/
import Derived.Test.YtbemnabojjiikaaB7
set_option linter.unusedVariables false
set_option linter.unusedSimpArgs false
set_option maxRecDepth 100000
namespace Go.Proofs.Ytbemnabojjiikaa.V
open Go Go.Ev Go.Proofs
/-! spec.HarderPuzzle -/
noncomputable def c_s_HarderPuzzle : FnCx := { env := env 35 [(86, S_s_pzGood), (89, S_s_pzSolved), (93, S_s_pzWithout)] [], body := bodyOf Try.f49, res := [.cell 2 28, .tmp 3], ins := [.ro kPuzzle], out := [(kPuzzle, true), (kbool, true)], T := List (Int × Int × Int) × Bool, fin := fun r => (r.1.1, r.1.2.1), inj := fun t => ((t.1, t.2, ()), ((), ())), pts := [([.inLoop [1, 1, 1, 0, 1, 0, 0], .inBlock 0, .code [1, 1, 1, 1]], Shape.mk [Bs.box 28 [Cs.sl 2], Bs.row kClue 63 true, Bs.row kClue 63 true] [(2, Ss.one (Cs.ptr 0 0)), (4, Ss.one (Cs.sl 1)), (5, Ss.one (Cs.sc kint))] [Ss.one (Cs.any)])], fuel := 400, dr := noDr }
noncomputable def s_HarderPuzzle_t1 (g1 : List (Int × (Int × Int)) → List (Int × (Int × Int)) → Int → Option (List (Int × Int × Int) × Bool)) (r1 : List (Int × (Int × Int))) (r2 : List (Int × (Int × Int))) (k5 : Int) : Option (List (Int × Int × Int) × Bool) :=
  bif decide (k5 < (↑(List.length r1) : Int)) then
    Option.bind (s_pzWithout r1 k5) fun r => Option.bind (s_pzSolved r) fun r_1 => bif r_1 then g1 r r2 k5 else g1 r1 r2 (IntKind.wrap IntKind.i64 (k5 + 1))
  else some (r1, true)
noncomputable def s_HarderPuzzle_t0 (g1 : List (Int × (Int × Int)) → List (Int × (Int × Int)) → Int → Option (List (Int × Int × Int) × Bool)) (p0_Clues : List (Int × Int × Int)) : Option (List (Int × Int × Int) × Bool) :=
  bif !s_pzGood_n p0_Clues then some ([], false)
  else
    Option.bind (s_pzSolved p0_Clues) fun r =>
      bif !r then some ([], false) else bif Nat.ble (0 + List.length p0_Clues) 4294967296 then g1 ([] ++ p0_Clues) [] 0 else none
theorem s_HarderPuzzle_ts : Tails c_s_HarderPuzzle.pts c_s_HarderPuzzle.round :=
  ⟨fun s => by
    obtain ⟨⟨⟨_, _⟩, r1, r2, _⟩, ⟨_, _, k5, _⟩, ⟨_, _⟩⟩ := s
    refine Tail.eq (Y := fun g => s_HarderPuzzle_t1 (fun r1 r2 k5 => g.1 ((((), ()), r1, r2, ()), ((), (), k5, ()), ((), ()))) r1 r2 k5) ?_ (fun g => by kernel_rfl)
    simp only [s_HarderPuzzle_t1]; repeat (first | exact Tail.const _ | exact Tail.here _ | exact Tail.there (Tail.here _) | exact Tail.there (Tail.there (Tail.here _)) | exact Tail.there (Tail.there (Tail.there (Tail.here _))) | exact Tail.there (Tail.there (Tail.there (Tail.there (Tail.here _)))) | exact Tail.there (Tail.there (Tail.there (Tail.there (Tail.there (Tail.here _))))) | apply Tail.cond | (apply Tail.bind; intro _)), trivial⟩
theorem s_HarderPuzzle_hs : ∀ x, Tail c_s_HarderPuzzle.pts (fun g => c_s_HarderPuzzle.start g x) := fun x => by
    obtain ⟨p0_Clues, _⟩ := x
    refine Tail.eq (Y := fun g => s_HarderPuzzle_t0 (fun r1 r2 k5 => g.1 ((((), ()), r1, r2, ()), ((), (), k5, ()), ((), ()))) p0_Clues) ?_ (fun g => by kernel_rfl)
    simp only [s_HarderPuzzle_t0]; repeat (first | exact Tail.const _ | exact Tail.here _ | exact Tail.there (Tail.here _) | exact Tail.there (Tail.there (Tail.here _)) | exact Tail.there (Tail.there (Tail.there (Tail.here _))) | exact Tail.there (Tail.there (Tail.there (Tail.there (Tail.here _)))) | exact Tail.there (Tail.there (Tail.there (Tail.there (Tail.there (Tail.here _))))) | apply Tail.cond | (apply Tail.bind; intro _))
noncomputable def s_HarderPuzzle_L1 (r1 : List (Int × (Int × Int))) (r2 : List (Int × (Int × Int))) (k5 : Int) : Option (List (Int × Int × Int) × Bool) := c_s_HarderPuzzle.L.1 ((((), ()), r1, r2, ()), ((), (), k5, ()), ((), ()))
theorem s_HarderPuzzle_u1 (r1 : List (Int × (Int × Int))) (r2 : List (Int × (Int × Int))) (k5 : Int) : s_HarderPuzzle_L1 r1 r2 k5 = s_HarderPuzzle_t1 s_HarderPuzzle_L1 r1 r2 k5 :=
  (congrArg (fun g => g.1 ((((), ()), r1, r2, ()), ((), (), k5, ()), ((), ()))) (FnCx.L_eq s_HarderPuzzle_ts)).trans (by kernel_rfl)
noncomputable def s_HarderPuzzle (p0_Clues : List (Int × Int × Int)) : Option (List (Int × Int × Int) × Bool) := s_HarderPuzzle_t0 s_HarderPuzzle_L1 p0_Clues
theorem s_HarderPuzzle_e (p0_Clues : List (Int × Int × Int)) : c_s_HarderPuzzle.start c_s_HarderPuzzle.L (p0_Clues, ()) = s_HarderPuzzle p0_Clues := by kernel_rfl
noncomputable def F_s_HarderPuzzle : Ins c_s_HarderPuzzle.ins → Option (List (Int × Int × Int) × Bool) := fun x => s_HarderPuzzle x.1
noncomputable def S_s_HarderPuzzle : FSpec := mkF c_s_HarderPuzzle.env.pre c_s_HarderPuzzle.ins c_s_HarderPuzzle.out c_s_HarderPuzzle.inj F_s_HarderPuzzle
theorem h_s_HarderPuzzle : Cert Try.prog 49 S_s_HarderPuzzle := FnCx.certF (c := c_s_HarderPuzzle) F_s_HarderPuzzle (tyOk _ _ _) (spOk ⟨h_s_pzGood, fun _ _ _ => trivial, ⟨h_s_pzSolved, fun _ _ _ => trivial, ⟨h_s_pzWithout, fun _ _ _ => trivial, trivial⟩⟩⟩) (fun _ _ _ _ _ hs => noDr_ok) Try.func49 rfl rfl Try.ntmps49 (by kernel_rfl) rfl rfl (fun _ => rfl) s_HarderPuzzle_ts s_HarderPuzzle_hs (fun x t hb ht => by
  obtain ⟨p0_Clues, _⟩ := x
  exact (s_HarderPuzzle_e p0_Clues).trans ht)
/-! slices.Clone[[]impl.Clue,impl.Clue] -/
noncomputable def c_slices_Clone_Clue : FnCx := { env := env 8 [] [], body := bodyOf Try.f95, res := [.tmp 2], ins := [.ro kSClue], out := [(kSClue, true)], T := List (Int × Int × Int), fin := fun r => r.1.1, inj := fun t => ((t, ()), ((), ())), pts := [], fuel := 400, dr := noDr }
noncomputable def slices_Clone_Clue (s0 : List (Int × Int × Int)) : Option (List (Int × Int × Int)) :=
  bif decide (0 < (↑(List.length s0) : Int)) then bif Nat.ble (0 + List.length s0) 4294967296 then some ([] ++ s0) else none
  else both (some []) (bif Nat.ble (0 + List.length s0) 4294967296 then some ([] ++ s0) else none)
theorem slices_Clone_Clue_e (s0 : List (Int × Int × Int)) : c_slices_Clone_Clue.start c_slices_Clone_Clue.L (s0, ()) = slices_Clone_Clue s0 := by kernel_rfl
-- NICE opt
noncomputable def slices_Clone_Clue_n (s : List (Int × Int × Int)) : Option (List (Int × Int × Int)) := bif decide (s.length ≤ 4294967296) then some s else none
theorem slices_Clone_Clue_ok (s : List (Int × Int × Int)) (hb : BdI c_slices_Clone_Clue.ins (s, ())) (t : List (Int × Int × Int)) (ht : slices_Clone_Clue_n s = some t) : slices_Clone_Clue s = some t := by
  unfold slices_Clone_Clue_n at ht
  cases h : decide (s.length ≤ 4294967296)
  · rw [h] at ht; cases ht
  · rw [h] at ht; cases ht
    have h := of_decide_eq_true h
    unfold slices_Clone_Clue
    cases s with
    | nil => simp [ble_dec, both_same]
    | cons x l =>
      have h' : l.length + 1 ≤ 4294967296 := h
      have h2 : (0 : Int) < l.length + 1 := by omega
      simp [ble_dec, h', h2]
noncomputable def F_slices_Clone_Clue : Ins c_slices_Clone_Clue.ins → Option (List (Int × Int × Int)) := fun x => slices_Clone_Clue_n x.1
noncomputable def S_slices_Clone_Clue : FSpec := mkF c_slices_Clone_Clue.env.pre c_slices_Clone_Clue.ins c_slices_Clone_Clue.out c_slices_Clone_Clue.inj F_slices_Clone_Clue
theorem h_slices_Clone_Clue : Cert Try.prog 95 S_slices_Clone_Clue := FnCx.certF (c := c_slices_Clone_Clue) F_slices_Clone_Clue (tyOk _ _ _) (spOk trivial) (fun _ _ _ _ _ hs => noDr_ok) Try.func95 rfl rfl Try.ntmps95 (by kernel_rfl) rfl rfl (fun _ => rfl) trivial (fun x => .inl ⟨c_slices_Clone_Clue.start () x, fun _ => rfl⟩) (fun x t hb ht => by
  obtain ⟨s0, _⟩ := x
  exact (slices_Clone_Clue_e s0).trans (slices_Clone_Clue_ok s0 hb t ht))
/-! impl.HarderPuzzle -/
noncomputable def c_i_HarderPuzzle : FnCx := { env := env 36 [(29, S_i_IsSolved), (95, S_slices_Clone_Clue), (94, S_i_without), (90, S_i_solutions)] [], body := bodyOf Try.f50, res := [.cell 2 28, .tmp 3], ins := [.ro kPuzzle], out := [(kPuzzle, true), (kbool, true)], T := List (Int × Int × Int) × Bool, fin := fun r => (r.1.1, r.1.2.1), inj := fun t => ((t.1, t.2, ()), ((), ())), pts := [([.inLoop [1, 1, 1, 0, 1, 0, 0], .inBlock 0, .code [1, 1, 1, 1]], Shape.mk [Bs.box 28 [Cs.sl 2], Bs.row kClue 63 true, Bs.row kClue 63 true] [(2, Ss.one (Cs.ptr 0 0)), (6, Ss.one (Cs.sl 1)), (7, Ss.one (Cs.sc kint))] [Ss.one (Cs.any)])], fuel := 400, dr := noDr }
noncomputable def i_HarderPuzzle_t1 (g1 : List (Int × (Int × Int)) → List (Int × (Int × Int)) → Int → Option (List (Int × Int × Int) × Bool)) (r1 : List (Int × (Int × Int))) (r2 : List (Int × (Int × Int))) (k7 : Int) : Option (List (Int × Int × Int) × Bool) :=
  bif decide (k7 < (↑(List.length r1) : Int)) then
    Option.bind (i_without r1 k7) fun r =>
      Option.bind (i_solutions r) fun r_1 => bif (↑(List.length r_1) : Int) == 1 then g1 r r2 k7 else g1 r1 r2 (IntKind.wrap IntKind.i64 (k7 + 1))
  else some (r1, true)
noncomputable def i_HarderPuzzle_t0 (g1 : List (Int × (Int × Int)) → List (Int × (Int × Int)) → Int → Option (List (Int × Int × Int) × Bool)) (p0_Clues : List (Int × Int × Int)) : Option (List (Int × Int × Int) × Bool) :=
  Option.bind (i_IsSolved p0_Clues) fun r => bif !Prod.fst r then some ([], false) else Option.bind (slices_Clone_Clue_n p0_Clues) fun r => g1 r [] 0
theorem i_HarderPuzzle_ts : Tails c_i_HarderPuzzle.pts c_i_HarderPuzzle.round :=
  ⟨fun s => by
    obtain ⟨⟨⟨_, _⟩, r1, r2, _⟩, ⟨_, _, k7, _⟩, ⟨_, _⟩⟩ := s
    refine Tail.eq (Y := fun g => i_HarderPuzzle_t1 (fun r1 r2 k7 => g.1 ((((), ()), r1, r2, ()), ((), (), k7, ()), ((), ()))) r1 r2 k7) ?_ (fun g => by kernel_rfl)
    simp only [i_HarderPuzzle_t1]; repeat (first | exact Tail.const _ | exact Tail.here _ | exact Tail.there (Tail.here _) | exact Tail.there (Tail.there (Tail.here _)) | exact Tail.there (Tail.there (Tail.there (Tail.here _))) | exact Tail.there (Tail.there (Tail.there (Tail.there (Tail.here _)))) | exact Tail.there (Tail.there (Tail.there (Tail.there (Tail.there (Tail.here _))))) | apply Tail.cond | (apply Tail.bind; intro _)), trivial⟩
theorem i_HarderPuzzle_hs : ∀ x, Tail c_i_HarderPuzzle.pts (fun g => c_i_HarderPuzzle.start g x) := fun x => by
    obtain ⟨p0_Clues, _⟩ := x
    refine Tail.eq (Y := fun g => i_HarderPuzzle_t0 (fun r1 r2 k7 => g.1 ((((), ()), r1, r2, ()), ((), (), k7, ()), ((), ()))) p0_Clues) ?_ (fun g => by kernel_rfl)
    simp only [i_HarderPuzzle_t0]; repeat (first | exact Tail.const _ | exact Tail.here _ | exact Tail.there (Tail.here _) | exact Tail.there (Tail.there (Tail.here _)) | exact Tail.there (Tail.there (Tail.there (Tail.here _))) | exact Tail.there (Tail.there (Tail.there (Tail.there (Tail.here _)))) | exact Tail.there (Tail.there (Tail.there (Tail.there (Tail.there (Tail.here _))))) | apply Tail.cond | (apply Tail.bind; intro _))
noncomputable def i_HarderPuzzle_L1 (r1 : List (Int × (Int × Int))) (r2 : List (Int × (Int × Int))) (k7 : Int) : Option (List (Int × Int × Int) × Bool) := c_i_HarderPuzzle.L.1 ((((), ()), r1, r2, ()), ((), (), k7, ()), ((), ()))
theorem i_HarderPuzzle_u1 (r1 : List (Int × (Int × Int))) (r2 : List (Int × (Int × Int))) (k7 : Int) : i_HarderPuzzle_L1 r1 r2 k7 = i_HarderPuzzle_t1 i_HarderPuzzle_L1 r1 r2 k7 :=
  (congrArg (fun g => g.1 ((((), ()), r1, r2, ()), ((), (), k7, ()), ((), ()))) (FnCx.L_eq i_HarderPuzzle_ts)).trans (by kernel_rfl)
noncomputable def i_HarderPuzzle (p0_Clues : List (Int × Int × Int)) : Option (List (Int × Int × Int) × Bool) := i_HarderPuzzle_t0 i_HarderPuzzle_L1 p0_Clues
theorem i_HarderPuzzle_e (p0_Clues : List (Int × Int × Int)) : c_i_HarderPuzzle.start c_i_HarderPuzzle.L (p0_Clues, ()) = i_HarderPuzzle p0_Clues := by kernel_rfl
noncomputable def F_i_HarderPuzzle : Ins c_i_HarderPuzzle.ins → Option (List (Int × Int × Int) × Bool) := fun x => i_HarderPuzzle x.1
noncomputable def S_i_HarderPuzzle : FSpec := mkF c_i_HarderPuzzle.env.pre c_i_HarderPuzzle.ins c_i_HarderPuzzle.out c_i_HarderPuzzle.inj F_i_HarderPuzzle
theorem h_i_HarderPuzzle : Cert Try.prog 50 S_i_HarderPuzzle := FnCx.certF (c := c_i_HarderPuzzle) F_i_HarderPuzzle (tyOk _ _ _) (spOk ⟨h_i_IsSolved, fun _ _ _ => trivial, ⟨h_slices_Clone_Clue, fun _ _ _ => trivial, ⟨h_i_without, fun _ _ _ => trivial, ⟨h_i_solutions, fun _ _ _ => trivial, trivial⟩⟩⟩⟩) (fun _ _ _ _ _ hs => noDr_ok) Try.func50 rfl rfl Try.ntmps50 (by kernel_rfl) rfl rfl (fun _ => rfl) i_HarderPuzzle_ts i_HarderPuzzle_hs (fun x t hb ht => by
  obtain ⟨p0_Clues, _⟩ := x
  exact (i_HarderPuzzle_e p0_Clues).trans ht)
/-! laws.heldClueS -/
noncomputable def c_w_heldClueS : FnCx := { env := env 40 [] [], body := bodyOf Try.f84, res := [.tmp 4], ins := [.ro kSClue, .ro kint], out := [(kint, true)], T := Int, fin := fun r => r.1.1, inj := fun t => ((t, ()), ((), (), ())), pts := [([.inLoop [1, 0, 1, 0, 0], .inBlock 0, .code [1, 1]], Shape.mk [Bs.row kClue 63 false] [(0, Ss.one (Cs.sl 0)), (1, Ss.one (Cs.sc kint)), (5, Ss.one (Cs.sc kint))] [Ss.one (Cs.any), Ss.one (Cs.any)])], fuel := 400, dr := noDr }
noncomputable def w_heldClueS_t1 (g1 : List (Int × (Int × Int)) → Int → Int → Option (Int)) (r0 : List (Int × (Int × Int))) (k1 : Int) (i5 : Int) : Option Int :=
  bif decide (i5 < (↑(List.length r0) : Int)) then
    bif decide (0 ≤ i5) then
      bif decide (i5 < (↑(List.length r0) : Int)) then
        bif Prod.fst (rdk kClue r0 i5) != k1 then some (-1)
        else
          bif decide (0 ≤ i5) then
            bif decide (i5 < (↑(List.length r0) : Int)) then
              bif
                  Prod.fst (Prod.snd (rdk kClue r0 i5)) !=
                    IntKind.wrap IntKind.i64 (k1 + 1) then
                some (-1)
              else
                bif decide (0 ≤ i5) then
                  bif decide (i5 < (↑(List.length r0) : Int)) then
                    bif
                        Prod.snd (Prod.snd (rdk kClue r0 i5)) !=
                          IntKind.wrap IntKind.i64 (IntKind.wrap IntKind.i64 (k1 + 1) + 1) then
                      some (-1)
                    else
                      g1 r0 (IntKind.wrap IntKind.i64 (IntKind.wrap IntKind.i64 (IntKind.wrap IntKind.i64 (k1 + 1) + 1) + 1)) (IntKind.wrap IntKind.i64 (i5 + 1))
                  else none
                else none
            else none
          else none
      else none
    else none
  else some k1
noncomputable def w_heldClueS_t0 (g1 : List (Int × (Int × Int)) → Int → Int → Option (Int)) (a0 : List (Int × Int × Int)) (k1 : Int) : Option Int :=
  g1 a0 k1 0
theorem w_heldClueS_ts : Tails c_w_heldClueS.pts c_w_heldClueS.round :=
  ⟨fun s => by
    obtain ⟨⟨r0, _⟩, ⟨_, k1, i5, _⟩, ⟨_, _, _⟩⟩ := s
    refine Tail.eq (Y := fun g => w_heldClueS_t1 (fun r0 k1 i5 => g.1 ((r0, ()), ((), k1, i5, ()), ((), (), ()))) r0 k1 i5) ?_ (fun g => by kernel_rfl)
    simp only [w_heldClueS_t1]; repeat (first | exact Tail.const _ | exact Tail.here _ | exact Tail.there (Tail.here _) | exact Tail.there (Tail.there (Tail.here _)) | exact Tail.there (Tail.there (Tail.there (Tail.here _))) | exact Tail.there (Tail.there (Tail.there (Tail.there (Tail.here _)))) | exact Tail.there (Tail.there (Tail.there (Tail.there (Tail.there (Tail.here _))))) | apply Tail.cond | (apply Tail.bind; intro _)), trivial⟩
theorem w_heldClueS_hs : ∀ x, Tail c_w_heldClueS.pts (fun g => c_w_heldClueS.start g x) := fun x => by
    obtain ⟨a0, k1, _⟩ := x
    refine Tail.eq (Y := fun g => w_heldClueS_t0 (fun r0 k1 i5 => g.1 ((r0, ()), ((), k1, i5, ()), ((), (), ()))) a0 k1) ?_ (fun g => by kernel_rfl)
    simp only [w_heldClueS_t0]; repeat (first | exact Tail.const _ | exact Tail.here _ | exact Tail.there (Tail.here _) | exact Tail.there (Tail.there (Tail.here _)) | exact Tail.there (Tail.there (Tail.there (Tail.here _))) | exact Tail.there (Tail.there (Tail.there (Tail.there (Tail.here _)))) | exact Tail.there (Tail.there (Tail.there (Tail.there (Tail.there (Tail.here _))))) | apply Tail.cond | (apply Tail.bind; intro _))
noncomputable def w_heldClueS_L1 (r0 : List (Int × (Int × Int))) (k1 : Int) (i5 : Int) : Option Int := c_w_heldClueS.L.1 ((r0, ()), ((), k1, i5, ()), ((), (), ()))
theorem w_heldClueS_u1 (r0 : List (Int × (Int × Int))) (k1 : Int) (i5 : Int) : w_heldClueS_L1 r0 k1 i5 = w_heldClueS_t1 w_heldClueS_L1 r0 k1 i5 :=
  (congrArg (fun g => g.1 ((r0, ()), ((), k1, i5, ()), ((), (), ()))) (FnCx.L_eq w_heldClueS_ts)).trans (by kernel_rfl)
noncomputable def w_heldClueS (a0 : List (Int × Int × Int)) (k1 : Int) : Option Int := w_heldClueS_t0 w_heldClueS_L1 a0 k1
theorem w_heldClueS_e (a0 : List (Int × Int × Int)) (k1 : Int) : c_w_heldClueS.start c_w_heldClueS.L (a0, k1, ()) = w_heldClueS a0 k1 := by kernel_rfl
-- NICE tot
def ckClue (x : Int × Int × Int) (k : Int) : Bool := x.1 == k && (x.2.1 == IntKind.wrap .i64 (k + 1) && x.2.2 == IntKind.wrap .i64 (IntKind.wrap .i64 (k + 1) + 1))
theorem ckClue_mk (k : Int) : ckClue (mkClue k) k = true := by simp [ckClue, mkClue]
noncomputable def w_heldClueS_n (a : List (Int × Int × Int)) (k : Int) : Int := heldGL ckClue nxClue a k
theorem w_heldClueS_ok (a : List (Int × Int × Int)) (k : Int) (hb : BdI c_w_heldClueS.ins (a, k, ())) : w_heldClueS a k = some (w_heldClueS_n a k) :=
  have hm : a.length ≤ maxLen := hb.1.1
  loop_heldG (ck := ckClue) (nx := nxClue) (L := fun i k => w_heldClueS_L1 a k (i : Int)) (l := a)
    (fun i h k => by
      simp only [w_heldClueS_u1 a k i, w_heldClueS_t1, rdk_get (k := kClue) h, wrapS h hm, ckClue, nxClue, bne]
      cases h1 : a[i].1 == k <;> cases h2 : a[i].2.1 == IntKind.wrap .i64 (k + 1) <;> cases h3 : a[i].2.2 == IntKind.wrap .i64 (IntKind.wrap .i64 (k + 1) + 1) <;> simp [h]) (fun k => by simp [w_heldClueS_u1 a k a.length, w_heldClueS_t1]) k
noncomputable def F_w_heldClueS : Ins c_w_heldClueS.ins → Int := fun x => w_heldClueS_n x.1 x.2.1
noncomputable def S_w_heldClueS : FSpec := mkT c_w_heldClueS.env.pre c_w_heldClueS.ins c_w_heldClueS.out c_w_heldClueS.inj F_w_heldClueS
theorem h_w_heldClueS : Cert Try.prog 84 S_w_heldClueS := FnCx.certT (c := c_w_heldClueS) F_w_heldClueS (tyOk _ _ _) (spOk trivial) (fun _ _ _ _ _ hs => noDr_ok) Try.func84 rfl rfl Try.ntmps84 (by kernel_rfl) rfl rfl (fun _ => rfl) w_heldClueS_ts w_heldClueS_hs (fun x hb => by
  obtain ⟨a0, k1, _⟩ := x
  exact (w_heldClueS_e a0 k1).trans (w_heldClueS_ok a0 k1 hb))
/-! laws.heldPuzzle -/
noncomputable def c_w_heldPuzzle : FnCx := { env := env 12 [(84, S_w_heldClueS)] [], body := bodyOf Try.f23, res := [.tmp 4], ins := [.ro kPuzzle, .ro kint], out := [(kint, true)], T := Int, fin := fun r => r.1.1, inj := fun t => ((t, ()), ((), (), ())), pts := [], fuel := 400, dr := noDr }
noncomputable def w_heldPuzzle (a0_Clues : List (Int × Int × Int)) (k1 : Int) : Int :=
  bif decide (w_heldClueS_n a0_Clues k1 < 0) then -1 else w_heldClueS_n a0_Clues k1
theorem w_heldPuzzle_e (a0_Clues : List (Int × Int × Int)) (k1 : Int) : c_w_heldPuzzle.start c_w_heldPuzzle.L (a0_Clues, k1, ()) = some (w_heldPuzzle a0_Clues k1) := by
  refine Eq.trans (b := (bif decide (w_heldClueS_n a0_Clues k1 < 0) then some (-1) else some (w_heldClueS_n a0_Clues k1) : Option Int)) (by kernel_rfl) ?_
  unfold w_heldPuzzle
  repeat (first | rfl | apply condS)
/-- a puzzle of any size, marked: what is held is what was marked -/
theorem heldPuzzle_eq (a : List (Int × Int × Int)) (h : a.length ≤ 1000000000000) : decide (markGK nxClue a 1 < 0) = false ∧ w_heldPuzzle (markGL mkClue nxClue a 1) 1 = markGK nxClue a 1 := by
  have e1 : markGK nxClue a 1 = 1 + (3 : Nat) * a.length := markGK_eq nxClue_eq a 1 (by omega) (by omega)
  have h1 : ¬ (1 + ((3 : Nat) : Int) * a.length < 0) := by omega
  constructor
  · rw [e1]; simpa using h1
  · unfold w_heldPuzzle w_heldClueS_n
    rw [heldG_mark ckClue_mk, e1]
    rw [decide_eq_false h1]
    rfl
noncomputable def F_w_heldPuzzle : Ins c_w_heldPuzzle.ins → Int := fun x => w_heldPuzzle x.1 x.2.1
noncomputable def S_w_heldPuzzle : FSpec := mkT c_w_heldPuzzle.env.pre c_w_heldPuzzle.ins c_w_heldPuzzle.out c_w_heldPuzzle.inj F_w_heldPuzzle
theorem h_w_heldPuzzle : Cert Try.prog 23 S_w_heldPuzzle := FnCx.certT (c := c_w_heldPuzzle) F_w_heldPuzzle (tyOk _ _ _) (spOk ⟨h_w_heldClueS, fun _ _ _ => trivial, trivial⟩) (fun _ _ _ _ _ hs => noDr_ok) Try.func23 rfl rfl Try.ntmps23 (by kernel_rfl) rfl rfl (fun _ => rfl) trivial (fun x => .inl ⟨c_w_heldPuzzle.start () x, fun _ => rfl⟩) (fun x hb => by
  obtain ⟨a0_Clues, k1, _⟩ := x
  exact w_heldPuzzle_e a0_Clues k1)
/-! laws.FnExactHarderPuzzle -/
noncomputable def c_w_FnExactHarderPuzzle : FnCx := { env := env 96 [(24, S_w_szPuzzle), (26, S_w_toPuzzle), (49, S_s_HarderPuzzle), (50, S_i_HarderPuzzle), (19, S_w_eqPuzzle), (22, S_w_markPuzzle), (23, S_w_heldPuzzle)] [], body := bodyOf Try.f12, res := [.tmp 2], ins := [.ro kwPuzzle], out := [(kbool, true)], T := Bool, fin := fun r => r.1.1, inj := fun t => ((t, ()), ((), ())), pts := [], fuel := 400, dr := evDr (env 96 [(24, S_w_szPuzzle), (26, S_w_toPuzzle), (49, S_s_HarderPuzzle), (50, S_i_HarderPuzzle), (19, S_w_eqPuzzle), (22, S_w_markPuzzle), (23, S_w_heldPuzzle)] []) }
noncomputable def w_FnExactHarderPuzzle (aP0_Clues : List (Int × Int × Int)) : Option Bool :=
  bif decide (w_szPuzzle aP0_Clues 1048576 < 0) then some true
  else
    Option.bind (w_toPuzzle aP0_Clues) fun r =>
      Option.bind (s_HarderPuzzle r) fun r =>
        Option.bind (w_toPuzzle aP0_Clues) fun r_1 =>
          Option.bind (i_HarderPuzzle r_1) fun r_2 =>
            bif !w_eqPuzzle (Prod.fst r_2) (Prod.fst r) then some false
            else
              bif !Prod.snd r_2 == Prod.snd r then some false
              else
                Option.bind (w_toPuzzle aP0_Clues) fun r_3 =>
                  bif !w_eqPuzzle r_1 r_3 then some false
                  else
                    bif decide (markGK nxClue r_1 1 < 0) then some false
                    else
                      bif !w_eqPuzzle (Prod.fst r_2) (Prod.fst r) then some false
                      else
                        bif !Prod.snd r_2 == Prod.snd r then some false
                        else
                          bif decide (w_heldPuzzle (markGL mkClue nxClue (Prod.fst r_2) 1) 1 < 0) then some false
                          else
                            bif w_heldPuzzle (markGL mkClue nxClue (Prod.fst r_2) 1) 1 != markGK nxClue (Prod.fst r_2) 1 then some false
                            else
                              Option.bind (w_toPuzzle aP0_Clues) fun r_4 =>
                                Option.bind (i_HarderPuzzle r_4) fun r_5 =>
                                  bif !w_eqPuzzle (Prod.fst r_5) (Prod.fst r) then some false
                                  else
                                    bif !Prod.snd r_5 == Prod.snd r then some false
                                    else
                                      bif decide (w_heldPuzzle (markGL mkClue nxClue (Prod.fst r_2) 1) 1 < 0) then some false
                                      else
                                        bif w_heldPuzzle (markGL mkClue nxClue (Prod.fst r_2) 1) 1 != markGK nxClue (Prod.fst r_2) 1 then some false
                                        else some true
theorem w_FnExactHarderPuzzle_e (aP0_Clues : List (Int × Int × Int)) : c_w_FnExactHarderPuzzle.start c_w_FnExactHarderPuzzle.L (aP0_Clues, ()) = w_FnExactHarderPuzzle aP0_Clues := by kernel_rfl
noncomputable def F_w_FnExactHarderPuzzle : Ins c_w_FnExactHarderPuzzle.ins → Option Bool := fun x => w_FnExactHarderPuzzle x.1
noncomputable def S_w_FnExactHarderPuzzle : FSpec := mkF c_w_FnExactHarderPuzzle.env.pre c_w_FnExactHarderPuzzle.ins c_w_FnExactHarderPuzzle.out c_w_FnExactHarderPuzzle.inj F_w_FnExactHarderPuzzle
theorem h_w_FnExactHarderPuzzle : Cert Try.prog 12 S_w_FnExactHarderPuzzle := FnCx.certF (c := c_w_FnExactHarderPuzzle) F_w_FnExactHarderPuzzle (tyOk _ _ _) (spOk ⟨h_w_szPuzzle, fun _ _ _ => trivial, ⟨h_w_toPuzzle, fun _ _ _ => trivial, ⟨h_s_HarderPuzzle, fun _ _ _ => trivial, ⟨h_i_HarderPuzzle, fun _ _ _ => trivial, ⟨h_w_eqPuzzle, fun _ _ _ => trivial, ⟨h_w_markPuzzle, fun _ _ _ => trivial, ⟨h_w_heldPuzzle, fun _ _ _ => trivial, trivial⟩⟩⟩⟩⟩⟩⟩) (fun _ _ _ _ _ hs => evDr_ok (tyOk _ _ _) hs follows) Try.func12 rfl rfl Try.ntmps12 (by kernel_rfl) rfl rfl (fun _ => rfl) trivial (fun x => .inl ⟨c_w_FnExactHarderPuzzle.start () x, fun _ => rfl⟩) (fun x t hb ht => by
  obtain ⟨aP0_Clues, _⟩ := x
  exact (w_FnExactHarderPuzzle_e aP0_Clues).trans ht)
end Go.Proofs.Ytbemnabojjiikaa.V
