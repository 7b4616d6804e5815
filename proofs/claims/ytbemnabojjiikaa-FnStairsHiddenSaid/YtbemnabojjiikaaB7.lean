/- Functions of the program, as plain functions. No condition. -/
import Derived.Test.YtbemnabojjiikaaB6
set_option linter.unusedVariables false
set_option linter.unusedSimpArgs false
set_option maxRecDepth 100000
namespace Go.Proofs.Ytbemnabojjiikaa.V
open Go Go.Ev Go.Proofs
/-! spec.pzWithout -/
noncomputable def c_s_pzWithout : FnCx := { env := env 15 [] [], body := bodyOf Try.f93, res := [.tmp 4], ins := [.ro kSClue, .ro kint], out := [(kSClue, true)], T := List (Int × Int × Int), fin := fun r => r.1.1, inj := fun t => ((t, ()), ((), (), ())), pts := [], fuel := 400, dr := evDr (env 15 [] []) }
noncomputable def s_pzWithout (clues0 : List (Int × Int × Int)) (k1 : Int) : Option (List (Int × Int × Int)) :=
  bif decide (0 ≤ k1) then
    bif decide (k1 ≤ (↑(List.length clues0) : Int)) then
      bif Nat.ble (0 + List.length (List.take (Int.toNat k1 - Int.toNat 0) (List.drop (Int.toNat 0) clues0))) 4294967296 then
        bif decide (0 ≤ IntKind.wrap IntKind.i64 (k1 + 1)) then
          bif decide (IntKind.wrap IntKind.i64 (k1 + 1) ≤ (↑(List.length clues0) : Int)) then
            bif
                Nat.ble
                  (List.length ([] ++ List.take (Int.toNat k1 - Int.toNat 0) (List.drop (Int.toNat 0) clues0)) +
                    List.length
                      (List.take (Int.toNat (↑(List.length clues0) : Int) - Int.toNat (IntKind.wrap IntKind.i64 (k1 + 1)))
                        (List.drop (Int.toNat (IntKind.wrap IntKind.i64 (k1 + 1))) clues0)))
                  4294967296 then
              some
                ([] ++ List.take (Int.toNat k1 - Int.toNat 0) (List.drop (Int.toNat 0) clues0) ++
                  List.take (Int.toNat (↑(List.length clues0) : Int) - Int.toNat (IntKind.wrap IntKind.i64 (k1 + 1)))
                    (List.drop (Int.toNat (IntKind.wrap IntKind.i64 (k1 + 1))) clues0))
            else none
          else none
        else none
      else none
    else none
  else none
theorem s_pzWithout_e (clues0 : List (Int × Int × Int)) (k1 : Int) : c_s_pzWithout.start c_s_pzWithout.L (clues0, k1, ()) = s_pzWithout clues0 k1 := by kernel_rfl
theorem s_pzWithout_eq (p : List (Int × Int × Int)) (k : Nat) (hk : k < p.length) (hl : p.length ≤ 6) : s_pzWithout p k = some (p.take k ++ p.drop (k + 1)) := by
  unfold s_pzWithout
  have hw : IntKind.wrap .i64 ((k : Int) + 1) = ((k + 1 : Nat) : Int) := by rw [wrapI (by omega) (by omega)]; omega
  have h1 : (0 : Int) ≤ (k : Int) := by omega
  have h2 : (k : Int) ≤ (p.length : Int) := by omega
  have h3 : (0 : Int) ≤ ((k + 1 : Nat) : Int) := by omega
  have h4 : ((k + 1 : Nat) : Int) ≤ (p.length : Int) := by omega
  rw [hw, decide_eq_true h1, decide_eq_true h2, decide_eq_true h3, decide_eq_true h4]
  simp only [cond_true, Int.toNat_natCast, ble_dec, List.nil_append]
  have e1 : (p.drop (k + 1)).take (p.length - (k + 1)) = p.drop (k + 1) := List.take_of_length_le (by simp)
  simp only [Int.toNat_zero, List.drop_zero, Nat.sub_zero, e1]
  rw [decide_eq_true (by simp; omega), decide_eq_true (by simp; omega)]
  rfl
noncomputable def F_s_pzWithout : Ins c_s_pzWithout.ins → Option (List (Int × Int × Int)) := fun x => s_pzWithout x.1 x.2.1
noncomputable def S_s_pzWithout : FSpec := mkF c_s_pzWithout.env.pre c_s_pzWithout.ins c_s_pzWithout.out c_s_pzWithout.inj F_s_pzWithout
theorem h_s_pzWithout : Cert Try.prog 93 S_s_pzWithout := FnCx.certF (c := c_s_pzWithout) F_s_pzWithout (tyOk _ _ _) (spOk trivial) (fun _ _ _ _ _ hs => evDr_ok (tyOk _ _ _) hs follows) Try.func93 rfl rfl Try.ntmps93 (by kernel_rfl) rfl rfl (fun _ => rfl) trivial (fun x => .inl ⟨c_s_pzWithout.start () x, fun _ => rfl⟩) (fun x t hb ht => by
  obtain ⟨clues0, k1, _⟩ := x
  exact (s_pzWithout_e clues0 k1).trans ht)
/-! spec.NeedlessClues -/
noncomputable def c_s_NeedlessClues : FnCx := { env := env 34 [(86, S_s_pzGood), (87, S_s_pzAll), (93, S_s_pzWithout)] [], body := bodyOf Try.f42, res := [.tmp 2, .tmp 3], ins := [.ro kPuzzle], out := [(kSint, true), (kbool, true)], T := List Int × Bool, fin := fun r => (r.1.1, r.1.2.1), inj := fun t => ((t.1, t.2, ()), ((), ())), pts := [([.inLoop [1, 1, 1, 1, 0, 1, 0, 0], .inBlock 0, .code [1, 1, 1, 1, 1]], Shape.mk [Bs.box 28 [Cs.sl 2], Bs.row kint 3 true, Bs.row kClue 63 false] [(1, Ss.one (Cs.ptr 0 0)), (4, Ss.one (Cs.sl 1)), (5, Ss.one (Cs.sc kint)), (16, Ss.one (Cs.sc kint)), (17, Ss.one (Cs.sc kint))] [Ss.one (Cs.any)])], fuel := 400, dr := noDr }
noncomputable def s_NeedlessClues_t1 (g1 : List (Int) → List (Int × (Int × Int)) → Int → Int → Int → Option (List Int × Bool)) (r1 : List (Int)) (r2 : List (Int × (Int × Int))) (count5 : Int) (s16 : Int) (s17 : Int) : Option (List Int × Bool) :=
  bif decide (s17 < s16) then
    Option.bind (s_pzWithout r2 s17) fun r =>
      Option.bind (s_pzAll r) fun r =>
        bif (↑(List.length r) : Int) == count5 then
          bif Nat.ble (List.length r1 + 1) 4294967296 then g1 (r1 ++ [s17]) r2 count5 s16 (IntKind.wrap IntKind.i64 (s17 + 1)) else none
        else g1 r1 r2 count5 s16 (IntKind.wrap IntKind.i64 (s17 + 1))
  else some (r1, true)
noncomputable def s_NeedlessClues_t0 (g1 : List (Int) → List (Int × (Int × Int)) → Int → Int → Int → Option (List Int × Bool)) (p0_Clues : List (Int × Int × Int)) : Option (List Int × Bool) :=
  bif !s_pzGood_n p0_Clues then some ([], false)
  else Option.bind (s_pzAll p0_Clues) fun r => g1 [] p0_Clues (↑(List.length r) : Int) (↑(List.length p0_Clues) : Int) 0
theorem s_NeedlessClues_ts : Tails c_s_NeedlessClues.pts c_s_NeedlessClues.round :=
  ⟨fun s => by
    obtain ⟨⟨⟨_, _⟩, r1, r2, _⟩, ⟨_, _, count5, s16, s17, _⟩, ⟨_, _⟩⟩ := s
    refine Tail.eq (Y := fun g => s_NeedlessClues_t1 (fun r1 r2 count5 s16 s17 => g.1 ((((), ()), r1, r2, ()), ((), (), count5, s16, s17, ()), ((), ()))) r1 r2 count5 s16 s17) ?_ (fun g => by kernel_rfl)
    simp only [s_NeedlessClues_t1]; repeat (first | exact Tail.const _ | exact Tail.here _ | exact Tail.there (Tail.here _) | exact Tail.there (Tail.there (Tail.here _)) | exact Tail.there (Tail.there (Tail.there (Tail.here _))) | exact Tail.there (Tail.there (Tail.there (Tail.there (Tail.here _)))) | exact Tail.there (Tail.there (Tail.there (Tail.there (Tail.there (Tail.here _))))) | apply Tail.cond | (apply Tail.bind; intro _)), trivial⟩
theorem s_NeedlessClues_hs : ∀ x, Tail c_s_NeedlessClues.pts (fun g => c_s_NeedlessClues.start g x) := fun x => by
    obtain ⟨p0_Clues, _⟩ := x
    refine Tail.eq (Y := fun g => s_NeedlessClues_t0 (fun r1 r2 count5 s16 s17 => g.1 ((((), ()), r1, r2, ()), ((), (), count5, s16, s17, ()), ((), ()))) p0_Clues) ?_ (fun g => by kernel_rfl)
    simp only [s_NeedlessClues_t0]; repeat (first | exact Tail.const _ | exact Tail.here _ | exact Tail.there (Tail.here _) | exact Tail.there (Tail.there (Tail.here _)) | exact Tail.there (Tail.there (Tail.there (Tail.here _))) | exact Tail.there (Tail.there (Tail.there (Tail.there (Tail.here _)))) | exact Tail.there (Tail.there (Tail.there (Tail.there (Tail.there (Tail.here _))))) | apply Tail.cond | (apply Tail.bind; intro _))
noncomputable def s_NeedlessClues_L1 (r1 : List (Int)) (r2 : List (Int × (Int × Int))) (count5 : Int) (s16 : Int) (s17 : Int) : Option (List Int × Bool) := c_s_NeedlessClues.L.1 ((((), ()), r1, r2, ()), ((), (), count5, s16, s17, ()), ((), ()))
theorem s_NeedlessClues_u1 (r1 : List (Int)) (r2 : List (Int × (Int × Int))) (count5 : Int) (s16 : Int) (s17 : Int) : s_NeedlessClues_L1 r1 r2 count5 s16 s17 = s_NeedlessClues_t1 s_NeedlessClues_L1 r1 r2 count5 s16 s17 :=
  (congrArg (fun g => g.1 ((((), ()), r1, r2, ()), ((), (), count5, s16, s17, ()), ((), ()))) (FnCx.L_eq s_NeedlessClues_ts)).trans (by kernel_rfl)
noncomputable def s_NeedlessClues (p0_Clues : List (Int × Int × Int)) : Option (List Int × Bool) := s_NeedlessClues_t0 s_NeedlessClues_L1 p0_Clues
theorem s_NeedlessClues_e (p0_Clues : List (Int × Int × Int)) : c_s_NeedlessClues.start c_s_NeedlessClues.L (p0_Clues, ()) = s_NeedlessClues p0_Clues := by kernel_rfl
noncomputable def F_s_NeedlessClues : Ins c_s_NeedlessClues.ins → Option (List Int × Bool) := fun x => s_NeedlessClues x.1
noncomputable def S_s_NeedlessClues : FSpec := mkF c_s_NeedlessClues.env.pre c_s_NeedlessClues.ins c_s_NeedlessClues.out c_s_NeedlessClues.inj F_s_NeedlessClues
theorem h_s_NeedlessClues : Cert Try.prog 42 S_s_NeedlessClues := FnCx.certF (c := c_s_NeedlessClues) F_s_NeedlessClues (tyOk _ _ _) (spOk ⟨h_s_pzGood, fun _ _ _ => trivial, ⟨h_s_pzAll, fun _ _ _ => trivial, ⟨h_s_pzWithout, fun _ _ _ => trivial, trivial⟩⟩⟩) (fun _ _ _ _ _ hs => noDr_ok) Try.func42 rfl rfl Try.ntmps42 (by kernel_rfl) rfl rfl (fun _ => rfl) s_NeedlessClues_ts s_NeedlessClues_hs (fun x t hb ht => by
  obtain ⟨p0_Clues, _⟩ := x
  exact (s_NeedlessClues_e p0_Clues).trans ht)
/-! slices.Grow[[]impl.Clue,impl.Clue] -/
noncomputable def c_slices_Grow_Clue : FnCx := { env := env 27 [] [20, 25], body := bodyOf Try.f145, res := [.tmp 4], ins := [.nl, .ro kint], out := [(kSClue, true)], T := List (Int × Int × Int), fin := fun r => r.1.1, inj := fun t => ((t, ()), ((), (), ())), pts := [], fuel := 400, dr := noDr }
noncomputable def slices_Grow_Clue (n1 : Int) : Option (List (Int × Int × Int)) :=
  bif decide (n1 < 0) then none
  else
    bif decide (IntKind.wrap IntKind.i64 (n1 - IntKind.wrap IntKind.i64 (0 - 0)) > 0) then
      bif decide (0 ≤ IntKind.wrap IntKind.i64 (n1 - IntKind.wrap IntKind.i64 (0 - 0))) then
        bif decide (IntKind.wrap IntKind.i64 (n1 - IntKind.wrap IntKind.i64 (0 - 0)) ≤ (↑4294967296 : Int)) then
          some (List.take (Int.toNat 0) (List.replicate (Int.toNat (IntKind.wrap IntKind.i64 (n1 - IntKind.wrap IntKind.i64 (0 - 0)))) (Kd.zero kClue)))
        else none
      else none
    else some []
theorem slices_Grow_Clue_e (n1 : Int) : c_slices_Grow_Clue.start c_slices_Grow_Clue.L ((), n1, ()) = slices_Grow_Clue n1 := by kernel_rfl
noncomputable def F_slices_Grow_Clue : Ins c_slices_Grow_Clue.ins → Option (List (Int × Int × Int)) := fun x => slices_Grow_Clue x.2.1
noncomputable def S_slices_Grow_Clue : FSpec := mkF c_slices_Grow_Clue.env.pre c_slices_Grow_Clue.ins c_slices_Grow_Clue.out c_slices_Grow_Clue.inj F_slices_Grow_Clue
theorem h_slices_Grow_Clue : Cert Try.prog 145 S_slices_Grow_Clue := FnCx.certF (c := c_slices_Grow_Clue) F_slices_Grow_Clue (tyOk _ _ _) (spOk trivial) (fun _ _ _ _ _ hs => noDr_ok) Try.func145 rfl rfl Try.ntmps145 (by kernel_rfl) rfl rfl (fun _ => rfl) trivial (fun x => .inl ⟨c_slices_Grow_Clue.start () x, fun _ => rfl⟩) (fun x t hb ht => by
  obtain ⟨_, n1, _⟩ := x
  exact (slices_Grow_Clue_e n1).trans ht)
/-! slices.Concat[[]impl.Clue,impl.Clue] -/
noncomputable def c_slices_Concat_Clue : FnCx := { env := env 36 [(145, S_slices_Grow_Clue)] [], body := bodyOf Try.f131, res := [.tmp 2], ins := [.ro kSSClue], out := [(kSClue, true)], T := List (Int × Int × Int), fin := fun r => r.1.1, inj := fun t => ((t, ()), ((), ())), pts := [([.inLoop [1, 1, 0, 1, 0, 0], .inBlock 0, .code [1, 1, 1]], Shape.mk [Bs.row kSClue 26 false] [(0, Ss.one (Cs.sl 0)), (3, Ss.one (Cs.sc kint)), (9, Ss.one (Cs.sl 0)), (10, Ss.one (Cs.sc kint)), (11, Ss.one (Cs.sc kint))] [Ss.one (Cs.any)]), ([.inLoop [1, 1, 1, 1, 0, 1, 0, 0], .inBlock 2, .code [1, 1, 1, 1, 1]], Shape.mk [Bs.row kClue 63 true, Bs.row kSClue 26 false] [(6, Ss.one (Cs.sl 0)), (25, Ss.one (Cs.sl 1)), (26, Ss.one (Cs.sc kint)), (27, Ss.one (Cs.sc kint))] [Ss.one (Cs.any)])], fuel := 400, dr := noDr }
noncomputable def slices_Concat_Clue_t1 (g1 : List (List (Int × (Int × Int))) → Int → Int → Int → Option (List (Int × Int × Int))) (g2 : List (Int × (Int × Int)) → List (List (Int × (Int × Int))) → Int → Int → Option (List (Int × Int × Int))) (r0 : List (List (Int × (Int × Int)))) (size3 : Int) (s10 : Int) (s11 : Int) : Option (List (Int × Int × Int)) :=
  bif decide (s11 < s10) then
    bif decide (0 ≤ s11) then
      bif decide (s11 < (↑(List.length r0) : Int)) then
        bif
            decide
              (IntKind.wrap IntKind.i64
                  (size3 +
                    (↑(List.length (rdk kSClue r0 s11)) : Int)) <
                0) then
          none
        else
          g1 r0
            (IntKind.wrap IntKind.i64
              (size3 + (↑(List.length (rdk kSClue r0 s11)) : Int)))
            s10 (IntKind.wrap IntKind.i64 (s11 + 1))
      else none
    else none
  else Option.bind (slices_Grow_Clue size3) fun r => g2 r r0 (↑(List.length r0) : Int) 0
noncomputable def slices_Concat_Clue_t2 (g1 : List (List (Int × (Int × Int))) → Int → Int → Int → Option (List (Int × Int × Int))) (g2 : List (Int × (Int × Int)) → List (List (Int × (Int × Int))) → Int → Int → Option (List (Int × Int × Int))) (r0 : List (Int × (Int × Int))) (r1 : List (List (Int × (Int × Int)))) (s26 : Int) (s27 : Int) : Option (List (Int × Int × Int)) :=
  bif decide (s27 < s26) then
    bif decide (0 ≤ s27) then
      bif decide (s27 < (↑(List.length r1) : Int)) then
        bif
            Nat.ble
              (List.length r0 + List.length (rdk kSClue r1 s27))
              4294967296 then
          g2 (r0 ++ rdk kSClue r1 s27) r1 s26
            (IntKind.wrap IntKind.i64 (s27 + 1))
        else none
      else none
    else none
  else some r0
noncomputable def slices_Concat_Clue_t0 (g1 : List (List (Int × (Int × Int))) → Int → Int → Int → Option (List (Int × Int × Int))) (g2 : List (Int × (Int × Int)) → List (List (Int × (Int × Int))) → Int → Int → Option (List (Int × Int × Int))) (slices0 : List (List (Int × Int × Int))) : Option (List (Int × Int × Int)) :=
  g1 slices0 0 (↑(List.length slices0) : Int) 0
theorem slices_Concat_Clue_ts : Tails c_slices_Concat_Clue.pts c_slices_Concat_Clue.round :=
  ⟨fun s => by
    obtain ⟨⟨r0, _⟩, ⟨_, size3, _, s10, s11, _⟩, ⟨_, _⟩⟩ := s
    refine Tail.eq (Y := fun g => slices_Concat_Clue_t1 (fun r0 size3 s10 s11 => g.1 ((r0, ()), ((), size3, (), s10, s11, ()), ((), ()))) (fun r0 r1 s26 s27 => g.2.1 ((r0, r1, ()), ((), (), s26, s27, ()), ((), ()))) r0 size3 s10 s11) ?_ (fun g => by kernel_rfl)
    simp only [slices_Concat_Clue_t1]; repeat (first | exact Tail.const _ | exact Tail.here _ | exact Tail.there (Tail.here _) | exact Tail.there (Tail.there (Tail.here _)) | exact Tail.there (Tail.there (Tail.there (Tail.here _))) | exact Tail.there (Tail.there (Tail.there (Tail.there (Tail.here _)))) | exact Tail.there (Tail.there (Tail.there (Tail.there (Tail.there (Tail.here _))))) | apply Tail.cond | (apply Tail.bind; intro _)),
  fun s => by
    obtain ⟨⟨r0, r1, _⟩, ⟨_, _, s26, s27, _⟩, ⟨_, _⟩⟩ := s
    refine Tail.eq (Y := fun g => slices_Concat_Clue_t2 (fun r0 size3 s10 s11 => g.1 ((r0, ()), ((), size3, (), s10, s11, ()), ((), ()))) (fun r0 r1 s26 s27 => g.2.1 ((r0, r1, ()), ((), (), s26, s27, ()), ((), ()))) r0 r1 s26 s27) ?_ (fun g => by kernel_rfl)
    simp only [slices_Concat_Clue_t2]; repeat (first | exact Tail.const _ | exact Tail.here _ | exact Tail.there (Tail.here _) | exact Tail.there (Tail.there (Tail.here _)) | exact Tail.there (Tail.there (Tail.there (Tail.here _))) | exact Tail.there (Tail.there (Tail.there (Tail.there (Tail.here _)))) | exact Tail.there (Tail.there (Tail.there (Tail.there (Tail.there (Tail.here _))))) | apply Tail.cond | (apply Tail.bind; intro _)), trivial⟩
theorem slices_Concat_Clue_hs : ∀ x, Tail c_slices_Concat_Clue.pts (fun g => c_slices_Concat_Clue.start g x) := fun x => by
    obtain ⟨slices0, _⟩ := x
    refine Tail.eq (Y := fun g => slices_Concat_Clue_t0 (fun r0 size3 s10 s11 => g.1 ((r0, ()), ((), size3, (), s10, s11, ()), ((), ()))) (fun r0 r1 s26 s27 => g.2.1 ((r0, r1, ()), ((), (), s26, s27, ()), ((), ()))) slices0) ?_ (fun g => by kernel_rfl)
    simp only [slices_Concat_Clue_t0]; repeat (first | exact Tail.const _ | exact Tail.here _ | exact Tail.there (Tail.here _) | exact Tail.there (Tail.there (Tail.here _)) | exact Tail.there (Tail.there (Tail.there (Tail.here _))) | exact Tail.there (Tail.there (Tail.there (Tail.there (Tail.here _)))) | exact Tail.there (Tail.there (Tail.there (Tail.there (Tail.there (Tail.here _))))) | apply Tail.cond | (apply Tail.bind; intro _))
noncomputable def slices_Concat_Clue_L1 (r0 : List (List (Int × (Int × Int)))) (size3 : Int) (s10 : Int) (s11 : Int) : Option (List (Int × Int × Int)) := c_slices_Concat_Clue.L.1 ((r0, ()), ((), size3, (), s10, s11, ()), ((), ()))
noncomputable def slices_Concat_Clue_L2 (r0 : List (Int × (Int × Int))) (r1 : List (List (Int × (Int × Int)))) (s26 : Int) (s27 : Int) : Option (List (Int × Int × Int)) := c_slices_Concat_Clue.L.2.1 ((r0, r1, ()), ((), (), s26, s27, ()), ((), ()))
theorem slices_Concat_Clue_u1 (r0 : List (List (Int × (Int × Int)))) (size3 : Int) (s10 : Int) (s11 : Int) : slices_Concat_Clue_L1 r0 size3 s10 s11 = slices_Concat_Clue_t1 slices_Concat_Clue_L1 slices_Concat_Clue_L2 r0 size3 s10 s11 :=
  (congrArg (fun g => g.1 ((r0, ()), ((), size3, (), s10, s11, ()), ((), ()))) (FnCx.L_eq slices_Concat_Clue_ts)).trans (by kernel_rfl)
theorem slices_Concat_Clue_u2 (r0 : List (Int × (Int × Int))) (r1 : List (List (Int × (Int × Int)))) (s26 : Int) (s27 : Int) : slices_Concat_Clue_L2 r0 r1 s26 s27 = slices_Concat_Clue_t2 slices_Concat_Clue_L1 slices_Concat_Clue_L2 r0 r1 s26 s27 :=
  (congrArg (fun g => g.2.1 ((r0, r1, ()), ((), (), s26, s27, ()), ((), ()))) (FnCx.L_eq slices_Concat_Clue_ts)).trans (by kernel_rfl)
noncomputable def slices_Concat_Clue (slices0 : List (List (Int × Int × Int))) : Option (List (Int × Int × Int)) := slices_Concat_Clue_t0 slices_Concat_Clue_L1 slices_Concat_Clue_L2 slices0
theorem slices_Concat_Clue_e (slices0 : List (List (Int × Int × Int))) : c_slices_Concat_Clue.start c_slices_Concat_Clue.L (slices0, ()) = slices_Concat_Clue slices0 := by kernel_rfl
noncomputable def F_slices_Concat_Clue : Ins c_slices_Concat_Clue.ins → Option (List (Int × Int × Int)) := fun x => slices_Concat_Clue x.1
noncomputable def S_slices_Concat_Clue : FSpec := mkF c_slices_Concat_Clue.env.pre c_slices_Concat_Clue.ins c_slices_Concat_Clue.out c_slices_Concat_Clue.inj F_slices_Concat_Clue
theorem h_slices_Concat_Clue : Cert Try.prog 131 S_slices_Concat_Clue := FnCx.certF (c := c_slices_Concat_Clue) F_slices_Concat_Clue (tyOk _ _ _) (spOk ⟨h_slices_Grow_Clue, fun _ _ _ => trivial, trivial⟩) (fun _ _ _ _ _ hs => noDr_ok) Try.func131 rfl rfl Try.ntmps131 (by kernel_rfl) rfl rfl (fun _ => rfl) slices_Concat_Clue_ts slices_Concat_Clue_hs (fun x t hb ht => by
  obtain ⟨slices0, _⟩ := x
  exact (slices_Concat_Clue_e slices0).trans ht)
/-! impl.without -/
noncomputable def c_i_without : FnCx := { env := env 14 [(131, S_slices_Concat_Clue)] [], body := bodyOf Try.f94, res := [.tmp 4], ins := [.ro kSClue, .ro kint], out := [(kSClue, true)], T := List (Int × Int × Int), fin := fun r => r.1.1, inj := fun t => ((t, ()), ((), (), ())), pts := [], fuel := 400, dr := evDr (env 14 [(131, S_slices_Concat_Clue)] []) }
noncomputable def i_without (clues0 : List (Int × Int × Int)) (k1 : Int) : Option (List (Int × Int × Int)) :=
  bif decide (0 ≤ k1) then
    bif decide (k1 ≤ (↑(List.length clues0) : Int)) then
      bif decide (0 ≤ IntKind.wrap IntKind.i64 (k1 + 1)) then
        bif decide (IntKind.wrap IntKind.i64 (k1 + 1) ≤ (↑(List.length clues0) : Int)) then
          Option.bind
            (slices_Concat_Clue
              [List.take (Int.toNat k1 - Int.toNat 0) (List.drop (Int.toNat 0) clues0),
                List.take (Int.toNat (↑(List.length clues0) : Int) - Int.toNat (IntKind.wrap IntKind.i64 (k1 + 1)))
                  (List.drop (Int.toNat (IntKind.wrap IntKind.i64 (k1 + 1))) clues0)])
            fun r => some r
        else none
      else none
    else none
  else none
theorem i_without_e (clues0 : List (Int × Int × Int)) (k1 : Int) : c_i_without.start c_i_without.L (clues0, k1, ()) = i_without clues0 k1 := by kernel_rfl
theorem i_grow_eq (n : Nat) (h : n ≤ 6) : slices_Grow_Clue n = some [] := by
  unfold slices_Grow_Clue
  have hw0 : IntKind.wrap .i64 (0 - 0) = 0 := rfl
  have hw : IntKind.wrap .i64 ((n : Int) - 0) = n := by rw [wrapI (by omega) (by omega)]; omega
  have hn : ¬ ((n : Int) < 0) := by omega
  rw [hw0, hw, decide_eq_false hn]
  by_cases h0 : n = 0
  · subst h0; rfl
  · have : (0 : Int) < n := by omega
    have hw' : IntKind.wrap .i64 (n : Int) = n := wrapI (by omega) (by omega)
    have h1 : 0 < n := by omega
    have h2 : (n : Int) ≤ 4294967296 := by omega
    simp [h1, h2, hw']
theorem i_concat_eq (a b : List (Int × Int × Int)) (h : a.length + b.length ≤ 6) : slices_Concat_Clue [a, b] = some (a ++ b) := by
  unfold slices_Concat_Clue slices_Concat_Clue_t0
  have hw1 : IntKind.wrap .i64 (0 + (a.length : Int)) = (a.length : Int) := by rw [wrapI (by omega) (by omega)]; omega
  have hw2 : IntKind.wrap .i64 ((a.length : Int) + (b.length : Int)) = ((a.length + b.length : Nat) : Int) := by rw [wrapI (by omega) (by omega)]; omega
  have hn1 : ¬ ((a.length : Int) < 0) := by omega
  have hn2 : ¬ (((a.length + b.length : Nat) : Int) < 0) := by omega
  have r0 : rdk kSClue [a, b] 0 = a := rfl
  have r1 : rdk kSClue [a, b] 1 = b := rfl
  have s1 : IntKind.wrap .i64 (0 + 1) = 1 := rfl
  have s2 : IntKind.wrap .i64 (1 + 1) = 2 := rfl
  have e1 := slices_Concat_Clue_u1 [a, b] 0 (([a, b] : List (List (Int × Int × Int))).length : Int) 0
  have e2 := slices_Concat_Clue_u1 [a, b] (a.length : Int) (([a, b] : List (List (Int × Int × Int))).length : Int) 1
  have e3 := slices_Concat_Clue_u1 [a, b] ((a.length + b.length : Nat) : Int) (([a, b] : List (List (Int × Int × Int))).length : Int) 2
  have e4 := slices_Concat_Clue_u2 [] [a, b] (([a, b] : List (List (Int × Int × Int))).length : Int) 0
  have e5 := slices_Concat_Clue_u2 a [a, b] (([a, b] : List (List (Int × Int × Int))).length : Int) 1
  have e6 := slices_Concat_Clue_u2 (a ++ b) [a, b] (([a, b] : List (List (Int × Int × Int))).length : Int) 2
  unfold slices_Concat_Clue_t1 at e1 e2 e3
  unfold slices_Concat_Clue_t2 at e4 e5 e6
  have hg := i_grow_eq (a.length + b.length) h
  have b1 : a.length ≤ 4294967296 := by omega
  have b2 : a.length + b.length ≤ 4294967296 := by omega
  rw [r0, hw1, s1, decide_eq_false hn1] at e1
  rw [r1, hw2, s2, decide_eq_false hn2] at e2
  rw [hg] at e3
  rw [r0, s1] at e4
  rw [r1, s2] at e5
  simp [ble_dec] at e1 e2 e3 e4 e5 e6
  simp [e1, e2, e3, e4, e5, e6, b1, b2]
theorem i_without_eq (p : List (Int × Int × Int)) (k : Nat) (hk : k < p.length) (hl : p.length ≤ 6) : i_without p k = some (p.take k ++ p.drop (k + 1)) := by
  unfold i_without
  have hw : IntKind.wrap .i64 ((k : Int) + 1) = ((k + 1 : Nat) : Int) := by rw [wrapI (by omega) (by omega)]; omega
  have h1 : (0 : Int) ≤ (k : Int) := by omega
  have h2 : (k : Int) ≤ (p.length : Int) := by omega
  have h3 : (0 : Int) ≤ ((k + 1 : Nat) : Int) := by omega
  have h4 : ((k + 1 : Nat) : Int) ≤ (p.length : Int) := by omega
  rw [hw, decide_eq_true h1, decide_eq_true h2, decide_eq_true h3, decide_eq_true h4]
  simp only [cond_true, Int.toNat_natCast]
  have e1 : (p.drop (k + 1)).take (p.length - (k + 1)) = p.drop (k + 1) := List.take_of_length_le (by simp)
  simp only [Int.toNat_zero, List.drop_zero, Nat.sub_zero, e1]
  rw [i_concat_eq _ _ (by simp; omega)]
  rfl
noncomputable def F_i_without : Ins c_i_without.ins → Option (List (Int × Int × Int)) := fun x => i_without x.1 x.2.1
noncomputable def S_i_without : FSpec := mkF c_i_without.env.pre c_i_without.ins c_i_without.out c_i_without.inj F_i_without
theorem h_i_without : Cert Try.prog 94 S_i_without := FnCx.certF (c := c_i_without) F_i_without (tyOk _ _ _) (spOk ⟨h_slices_Concat_Clue, fun _ _ _ => trivial, trivial⟩) (fun _ _ _ _ _ hs => evDr_ok (tyOk _ _ _) hs follows) Try.func94 rfl rfl Try.ntmps94 (by kernel_rfl) rfl rfl (fun _ => rfl) trivial (fun x => .inl ⟨c_i_without.start () x, fun _ => rfl⟩) (fun x t hb ht => by
  obtain ⟨clues0, k1, _⟩ := x
  exact (i_without_e clues0 k1).trans ht)
/-! impl.NeedlessClues -/
noncomputable def c_i_NeedlessClues : FnCx := { env := env 33 [(56, S_i_IsPuzzle), (94, S_i_without), (90, S_i_solutions)] [], body := bodyOf Try.f43, res := [.tmp 2, .tmp 3], ins := [.ro kPuzzle], out := [(kSint, true), (kbool, true)], T := List Int × Bool, fin := fun r => (r.1.1, r.1.2.1), inj := fun t => ((t.1, t.2, ()), ((), ())), pts := [([.inLoop [1, 1, 1, 0, 1, 0, 0], .inBlock 0, .code [1, 1, 1, 1]], Shape.mk [Bs.box 28 [Cs.sl 2], Bs.row kint 3 true, Bs.row kClue 63 false] [(1, Ss.one (Cs.ptr 0 0)), (4, Ss.one (Cs.sl 1)), (12, Ss.one (Cs.sc kint)), (13, Ss.one (Cs.sc kint))] [Ss.one (Cs.any)])], fuel := 400, dr := evDr (env 33 [(56, S_i_IsPuzzle), (94, S_i_without), (90, S_i_solutions)] []) }
noncomputable def i_NeedlessClues_t1 (g1 : List (Int) → List (Int × (Int × Int)) → Int → Int → Option (List Int × Bool)) (r1 : List (Int)) (r2 : List (Int × (Int × Int))) (s12 : Int) (s13 : Int) : Option (List Int × Bool) :=
  bif decide (s13 < s12) then
    Option.bind (i_without r2 s13) fun r =>
      Option.bind (i_solutions r) fun r =>
        Option.bind (i_solutions r2) fun r_1 =>
          bif (↑(List.length r) : Int) == (↑(List.length r_1) : Int) then
            bif Nat.ble (List.length r1 + 1) 4294967296 then g1 (r1 ++ [s13]) r2 s12 (IntKind.wrap IntKind.i64 (s13 + 1)) else none
          else g1 r1 r2 s12 (IntKind.wrap IntKind.i64 (s13 + 1))
  else some (r1, true)
noncomputable def i_NeedlessClues_t0 (g1 : List (Int) → List (Int × (Int × Int)) → Int → Int → Option (List Int × Bool)) (p0_Clues : List (Int × Int × Int)) : Option (List Int × Bool) :=
  bif !i_IsPuzzle p0_Clues then some ([], false) else g1 [] p0_Clues (↑(List.length p0_Clues) : Int) 0
theorem i_NeedlessClues_ts : Tails c_i_NeedlessClues.pts c_i_NeedlessClues.round :=
  ⟨fun s => by
    obtain ⟨⟨⟨_, _⟩, r1, r2, _⟩, ⟨_, _, s12, s13, _⟩, ⟨_, _⟩⟩ := s
    refine Tail.eq (Y := fun g => i_NeedlessClues_t1 (fun r1 r2 s12 s13 => g.1 ((((), ()), r1, r2, ()), ((), (), s12, s13, ()), ((), ()))) r1 r2 s12 s13) ?_ (fun g => by kernel_rfl)
    simp only [i_NeedlessClues_t1]; repeat (first | exact Tail.const _ | exact Tail.here _ | exact Tail.there (Tail.here _) | exact Tail.there (Tail.there (Tail.here _)) | exact Tail.there (Tail.there (Tail.there (Tail.here _))) | exact Tail.there (Tail.there (Tail.there (Tail.there (Tail.here _)))) | exact Tail.there (Tail.there (Tail.there (Tail.there (Tail.there (Tail.here _))))) | apply Tail.cond | (apply Tail.bind; intro _)), trivial⟩
theorem i_NeedlessClues_hs : ∀ x, Tail c_i_NeedlessClues.pts (fun g => c_i_NeedlessClues.start g x) := fun x => by
    obtain ⟨p0_Clues, _⟩ := x
    refine Tail.eq (Y := fun g => i_NeedlessClues_t0 (fun r1 r2 s12 s13 => g.1 ((((), ()), r1, r2, ()), ((), (), s12, s13, ()), ((), ()))) p0_Clues) ?_ (fun g => by kernel_rfl)
    simp only [i_NeedlessClues_t0]; repeat (first | exact Tail.const _ | exact Tail.here _ | exact Tail.there (Tail.here _) | exact Tail.there (Tail.there (Tail.here _)) | exact Tail.there (Tail.there (Tail.there (Tail.here _))) | exact Tail.there (Tail.there (Tail.there (Tail.there (Tail.here _)))) | exact Tail.there (Tail.there (Tail.there (Tail.there (Tail.there (Tail.here _))))) | apply Tail.cond | (apply Tail.bind; intro _))
noncomputable def i_NeedlessClues_L1 (r1 : List (Int)) (r2 : List (Int × (Int × Int))) (s12 : Int) (s13 : Int) : Option (List Int × Bool) := c_i_NeedlessClues.L.1 ((((), ()), r1, r2, ()), ((), (), s12, s13, ()), ((), ()))
theorem i_NeedlessClues_u1 (r1 : List (Int)) (r2 : List (Int × (Int × Int))) (s12 : Int) (s13 : Int) : i_NeedlessClues_L1 r1 r2 s12 s13 = i_NeedlessClues_t1 i_NeedlessClues_L1 r1 r2 s12 s13 :=
  (congrArg (fun g => g.1 ((((), ()), r1, r2, ()), ((), (), s12, s13, ()), ((), ()))) (FnCx.L_eq i_NeedlessClues_ts)).trans (by kernel_rfl)
noncomputable def i_NeedlessClues (p0_Clues : List (Int × Int × Int)) : Option (List Int × Bool) := i_NeedlessClues_t0 i_NeedlessClues_L1 p0_Clues
theorem i_NeedlessClues_e (p0_Clues : List (Int × Int × Int)) : c_i_NeedlessClues.start c_i_NeedlessClues.L (p0_Clues, ()) = i_NeedlessClues p0_Clues := by kernel_rfl
noncomputable def F_i_NeedlessClues : Ins c_i_NeedlessClues.ins → Option (List Int × Bool) := fun x => i_NeedlessClues x.1
noncomputable def S_i_NeedlessClues : FSpec := mkF c_i_NeedlessClues.env.pre c_i_NeedlessClues.ins c_i_NeedlessClues.out c_i_NeedlessClues.inj F_i_NeedlessClues
theorem h_i_NeedlessClues : Cert Try.prog 43 S_i_NeedlessClues := FnCx.certF (c := c_i_NeedlessClues) F_i_NeedlessClues (tyOk _ _ _) (spOk ⟨h_i_IsPuzzle, fun _ _ _ => trivial, ⟨h_i_without, fun _ _ _ => trivial, ⟨h_i_solutions, fun _ _ _ => trivial, trivial⟩⟩⟩) (fun _ _ _ _ _ hs => evDr_ok (tyOk _ _ _) hs follows) Try.func43 rfl rfl Try.ntmps43 (by kernel_rfl) rfl rfl (fun _ => rfl) i_NeedlessClues_ts i_NeedlessClues_hs (fun x t hb ht => by
  obtain ⟨p0_Clues, _⟩ := x
  exact (i_NeedlessClues_e p0_Clues).trans ht)
/-! laws.FnExactNeedlessClues -/
noncomputable def c_w_FnExactNeedlessClues : FnCx := { env := env 96 [(24, S_w_szPuzzle), (26, S_w_toPuzzle), (42, S_s_NeedlessClues), (43, S_i_NeedlessClues), (34, S_w_eqIntS), (19, S_w_eqPuzzle), (22, S_w_markPuzzle), (35, S_w_markIntS), (36, S_w_heldIntS)] [], body := bodyOf Try.f10, res := [.tmp 2], ins := [.ro kwPuzzle], out := [(kbool, true)], T := Bool, fin := fun r => r.1.1, inj := fun t => ((t, ()), ((), ())), pts := [], fuel := 400, dr := evDr (env 96 [(24, S_w_szPuzzle), (26, S_w_toPuzzle), (42, S_s_NeedlessClues), (43, S_i_NeedlessClues), (34, S_w_eqIntS), (19, S_w_eqPuzzle), (22, S_w_markPuzzle), (35, S_w_markIntS), (36, S_w_heldIntS)] []) }
noncomputable def w_FnExactNeedlessClues (aP0_Clues : List (Int × Int × Int)) : Option Bool :=
  bif decide (w_szPuzzle aP0_Clues 1048576 < 0) then some true
  else
    Option.bind (w_toPuzzle aP0_Clues) fun r =>
      Option.bind (s_NeedlessClues r) fun r =>
        Option.bind (w_toPuzzle aP0_Clues) fun r_1 =>
          Option.bind (i_NeedlessClues r_1) fun r_2 =>
            bif !w_eqIntS_n (Prod.fst r_2) (Prod.fst r) then some false
            else
              bif !Prod.snd r_2 == Prod.snd r then some false
              else
                Option.bind (w_toPuzzle aP0_Clues) fun r_3 =>
                  bif !w_eqPuzzle r_1 r_3 then some false
                  else
                    bif decide (markGK nxClue r_1 1 < 0) then some false
                    else
                      bif !w_eqIntS_n (Prod.fst r_2) (Prod.fst r) then some false
                      else
                        bif !Prod.snd r_2 == Prod.snd r then some false
                        else
                          bif decide (w_heldIntS_n (markL (Prod.fst r_2) 1) 1 < 0) then some false
                          else
                            bif w_heldIntS_n (markL (Prod.fst r_2) 1) 1 != markK (Prod.fst r_2) 1 then some false
                            else
                              Option.bind (w_toPuzzle aP0_Clues) fun r_4 =>
                                Option.bind (i_NeedlessClues r_4) fun r_5 =>
                                  bif !w_eqIntS_n (Prod.fst r_5) (Prod.fst r) then some false
                                  else
                                    bif !Prod.snd r_5 == Prod.snd r then some false
                                    else
                                      bif decide (w_heldIntS_n (markL (Prod.fst r_2) 1) 1 < 0) then some false
                                      else bif w_heldIntS_n (markL (Prod.fst r_2) 1) 1 != markK (Prod.fst r_2) 1 then some false else some true
theorem w_FnExactNeedlessClues_e (aP0_Clues : List (Int × Int × Int)) : c_w_FnExactNeedlessClues.start c_w_FnExactNeedlessClues.L (aP0_Clues, ()) = w_FnExactNeedlessClues aP0_Clues := by kernel_rfl
noncomputable def F_w_FnExactNeedlessClues : Ins c_w_FnExactNeedlessClues.ins → Option Bool := fun x => w_FnExactNeedlessClues x.1
noncomputable def S_w_FnExactNeedlessClues : FSpec := mkF c_w_FnExactNeedlessClues.env.pre c_w_FnExactNeedlessClues.ins c_w_FnExactNeedlessClues.out c_w_FnExactNeedlessClues.inj F_w_FnExactNeedlessClues
theorem h_w_FnExactNeedlessClues : Cert Try.prog 10 S_w_FnExactNeedlessClues := FnCx.certF (c := c_w_FnExactNeedlessClues) F_w_FnExactNeedlessClues (tyOk _ _ _) (spOk ⟨h_w_szPuzzle, fun _ _ _ => trivial, ⟨h_w_toPuzzle, fun _ _ _ => trivial, ⟨h_s_NeedlessClues, fun _ _ _ => trivial, ⟨h_i_NeedlessClues, fun _ _ _ => trivial, ⟨h_w_eqIntS, fun _ _ _ => trivial, ⟨h_w_eqPuzzle, fun _ _ _ => trivial, ⟨h_w_markPuzzle, fun _ _ _ => trivial, ⟨h_w_markIntS, fun _ _ _ => trivial, ⟨h_w_heldIntS, fun _ _ _ => trivial, trivial⟩⟩⟩⟩⟩⟩⟩⟩⟩) (fun _ _ _ _ _ hs => evDr_ok (tyOk _ _ _) hs follows) Try.func10 rfl rfl Try.ntmps10 (by kernel_rfl) rfl rfl (fun _ => rfl) trivial (fun x => .inl ⟨c_w_FnExactNeedlessClues.start () x, fun _ => rfl⟩) (fun x t hb ht => by
  obtain ⟨aP0_Clues, _⟩ := x
  exact (w_FnExactNeedlessClues_e aP0_Clues).trans ht)
end Go.Proofs.Ytbemnabojjiikaa.V
