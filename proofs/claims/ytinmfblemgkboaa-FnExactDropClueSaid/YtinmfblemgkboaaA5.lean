/- Functions of the program, as plain functions. No condition. -/
import Derived.Test.YtinmfblemgkboaaA3
set_option linter.unusedVariables false
set_option linter.unusedSimpArgs false
set_option maxRecDepth 100000
namespace Go.Proofs.Ytinmfblemgkboaa.V
open Go Go.Ev Go.Proofs
/-! spec.pzWithout -/
noncomputable def c_s_pzWithout : FnCx := { env := env 15 [] [], body := bodyOf Try.f133, res := [.tmp 4], ins := [.ro kSClue, .ro kint], out := [(kSClue, true)], T := List (Int × Int × Int), fin := fun r => r.1.1, inj := fun t => ((t, ()), ((), (), ())), pts := [], fuel := 400, dr := evDr (env 15 [] []) }
noncomputable def s_pzWithout (clues0 : List (Int × Int × Int)) (k1 : Int) : Option (List (Int × Int × Int)) :=
  bif decide (0 ≤ k1) then
    bif decide (k1 ≤ (↑(List.length clues0) : Int)) then
      bif Nat.ble (0 + List.length (List.take (Int.toNat k1 - Int.toNat 0) (List.drop (Int.toNat 0) clues0))) 4294967296 then
        bif decide (0 ≤ IntKind.wrap IntKind.i64 (k1 + 1)) then
          bif decide (IntKind.wrap IntKind.i64 (k1 + 1) ≤ (↑(List.length clues0) : Int)) then
            bif
                Nat.ble
                  (List.length ([] ++ List.take (Int.toNat k1 - Int.toNat 0) (List.drop (Int.toNat 0) clues0)) +
                    List.length
                      (List.take (Int.toNat (↑(List.length clues0) : Int) - Int.toNat (IntKind.wrap IntKind.i64 (k1 + 1)))
                        (List.drop (Int.toNat (IntKind.wrap IntKind.i64 (k1 + 1))) clues0)))
                  4294967296 then
              some
                ([] ++ List.take (Int.toNat k1 - Int.toNat 0) (List.drop (Int.toNat 0) clues0) ++
                  List.take (Int.toNat (↑(List.length clues0) : Int) - Int.toNat (IntKind.wrap IntKind.i64 (k1 + 1)))
                    (List.drop (Int.toNat (IntKind.wrap IntKind.i64 (k1 + 1))) clues0))
            else none
          else none
        else none
      else none
    else none
  else none
theorem s_pzWithout_e (clues0 : List (Int × Int × Int)) (k1 : Int) : c_s_pzWithout.start c_s_pzWithout.L (clues0, k1, ()) = s_pzWithout clues0 k1 := by kernel_rfl
noncomputable def F_s_pzWithout : Ins c_s_pzWithout.ins → Option (List (Int × Int × Int)) := fun x => s_pzWithout x.1 x.2.1
noncomputable def S_s_pzWithout : FSpec := mkF c_s_pzWithout.env.pre c_s_pzWithout.ins c_s_pzWithout.out c_s_pzWithout.inj F_s_pzWithout
theorem h_s_pzWithout : Cert Try.prog 133 S_s_pzWithout := FnCx.certF (c := c_s_pzWithout) F_s_pzWithout (tyOk _ _ _) (spOk trivial) (fun _ _ _ _ _ hs => evDr_ok (tyOk _ _ _) hs follows) Try.func133 rfl rfl Try.ntmps133 (by kernel_rfl) rfl rfl (fun _ => rfl) trivial (fun x => .inl ⟨c_s_pzWithout.start () x, fun _ => rfl⟩) (fun x t hb ht => by
  obtain ⟨clues0, k1, _⟩ := x
  exact (s_pzWithout_e clues0 k1).trans ht)
/-! spec.DropClue -/
noncomputable def c_s_DropClue : FnCx := { env := env 24 [(107, S_s_pzGood), (132, S_s_l1In), (133, S_s_pzWithout)] [], body := bodyOf Try.f45, res := [.cell 4 48, .tmp 5], ins := [.ro kPuzzle, .ro kint], out := [(kPuzzle, true), (kbool, true)], T := List (Int × Int × Int) × Bool, fin := fun r => (r.1.1, r.1.2.1), inj := fun t => ((t.1, t.2, ()), ((), (), ())), pts := [], fuel := 400, dr := noDr }
noncomputable def s_DropClue (p0_Clues : List (Int × Int × Int)) (k1 : Int) : Option (List (Int × Int × Int) × Bool) :=
  bif !s_pzGood_n p0_Clues then some ([], false)
  else
    bif !s_l1In k1 0 (IntKind.wrap IntKind.i64 ((↑(List.length p0_Clues) : Int) - 1)) then some ([], false)
    else Option.bind (s_pzWithout p0_Clues k1) fun r => some (r, true)
theorem s_DropClue_e (p0_Clues : List (Int × Int × Int)) (k1 : Int) : c_s_DropClue.start c_s_DropClue.L (p0_Clues, k1, ()) = s_DropClue p0_Clues k1 := by kernel_rfl
-- NICE tot
theorem s_pzWithout_eq (p : List (Int × Int × Int)) (k : Nat) (hk : k < p.length) (hl : p.length ≤ 6) : s_pzWithout p k = some (p.take k ++ p.drop (k + 1)) := by
  unfold s_pzWithout
  have hw : IntKind.wrap .i64 ((k : Int) + 1) = ((k + 1 : Nat) : Int) := by rw [wrapI (by omega) (by omega)]; omega
  have h1 : (0 : Int) ≤ (k : Int) := by omega
  have h2 : (k : Int) ≤ (p.length : Int) := by omega
  have h3 : (0 : Int) ≤ ((k + 1 : Nat) : Int) := by omega
  have h4 : ((k + 1 : Nat) : Int) ≤ (p.length : Int) := by omega
  rw [hw, decide_eq_true h1, decide_eq_true h2, decide_eq_true h3, decide_eq_true h4]
  simp only [cond_true, Int.toNat_natCast, ble_dec, List.nil_append]
  have e1 : (p.drop (k + 1)).take (p.length - (k + 1)) = p.drop (k + 1) := List.take_of_length_le (by simp)
  simp only [Int.toNat_zero, List.drop_zero, Nat.sub_zero, e1]
  rw [decide_eq_true (by simp; omega), decide_eq_true (by simp; omega)]
  rfl
noncomputable def s_DropClue_n (p : List (Int × Int × Int)) (k : Int) : List (Int × Int × Int) × Bool := bif s_pzGood_n p && (decide (0 ≤ k) && decide (k < (p.length : Int))) then (p.take k.toNat ++ p.drop (k.toNat + 1), true) else ([], false)
theorem s_DropClue_ok (p : List (Int × Int × Int)) (k : Int) (hb : BdI c_s_DropClue.ins (p, k, ())) : s_DropClue p k = some (s_DropClue_n p k) := by
  unfold s_DropClue s_DropClue_n
  cases h1 : s_pzGood_n p
  · rfl
  · have hl := s_pzGood_len h1
    have hw : IntKind.wrap .i64 ((p.length : Int) - 1) = (p.length : Int) - 1 := by rw [wrapI (by omega) (by omega)]
    have hi : s_l1In k 0 ((p.length : Int) - 1) = (decide (0 ≤ k) && decide (k < (p.length : Int))) := by
      unfold s_l1In
      by_cases h : 0 ≤ k <;> by_cases h' : k < (p.length : Int) <;> simp [h, h'] <;> omega
    rw [hw, hi]
    cases hd : (decide (0 ≤ k) && decide (k < (p.length : Int)))
    · rfl
    · simp only [Bool.and_eq_true, decide_eq_true_eq] at hd
      obtain ⟨n, rfl⟩ : ∃ n : Nat, k = n := ⟨k.toNat, (Int.toNat_of_nonneg hd.1).symm⟩
      have := s_pzWithout_eq p n (by omega) hl
      simp [this]
noncomputable def F_s_DropClue : Ins c_s_DropClue.ins → (List (Int × Int × Int) × Bool) := fun x => s_DropClue_n x.1 x.2.1
noncomputable def S_s_DropClue : FSpec := mkT c_s_DropClue.env.pre c_s_DropClue.ins c_s_DropClue.out c_s_DropClue.inj F_s_DropClue
theorem h_s_DropClue : Cert Try.prog 45 S_s_DropClue := FnCx.certT (c := c_s_DropClue) F_s_DropClue (tyOk _ _ _) (spOk ⟨h_s_pzGood, fun _ _ _ => trivial, ⟨h_s_l1In, fun _ _ _ => trivial, ⟨h_s_pzWithout, fun _ _ _ => trivial, trivial⟩⟩⟩) (fun _ _ _ _ _ hs => noDr_ok) Try.func45 rfl rfl Try.ntmps45 (by kernel_rfl) rfl rfl (fun _ => rfl) trivial (fun x => .inl ⟨c_s_DropClue.start () x, fun _ => rfl⟩) (fun x hb => by
  obtain ⟨p0_Clues, k1, _⟩ := x
  exact (s_DropClue_e p0_Clues k1).trans (s_DropClue_ok p0_Clues k1 hb))
/-! slices.Grow[[]impl.Clue,impl.Clue] -/
noncomputable def c_slices_Grow_Clue : FnCx := { env := env 27 [] [20, 25], body := bodyOf Try.f191, res := [.tmp 4], ins := [.nl, .ro kint], out := [(kSClue, true)], T := List (Int × Int × Int), fin := fun r => r.1.1, inj := fun t => ((t, ()), ((), (), ())), pts := [], fuel := 400, dr := noDr }
noncomputable def slices_Grow_Clue (n1 : Int) : Option (List (Int × Int × Int)) :=
  bif decide (n1 < 0) then none
  else
    bif decide (IntKind.wrap IntKind.i64 (n1 - IntKind.wrap IntKind.i64 (0 - 0)) > 0) then
      bif decide (0 ≤ IntKind.wrap IntKind.i64 (n1 - IntKind.wrap IntKind.i64 (0 - 0))) then
        bif decide (IntKind.wrap IntKind.i64 (n1 - IntKind.wrap IntKind.i64 (0 - 0)) ≤ (↑4294967296 : Int)) then
          some (List.take (Int.toNat 0) (List.replicate (Int.toNat (IntKind.wrap IntKind.i64 (n1 - IntKind.wrap IntKind.i64 (0 - 0)))) (Kd.zero kClue)))
        else none
      else none
    else some []
theorem slices_Grow_Clue_e (n1 : Int) : c_slices_Grow_Clue.start c_slices_Grow_Clue.L ((), n1, ()) = slices_Grow_Clue n1 := by kernel_rfl
noncomputable def F_slices_Grow_Clue : Ins c_slices_Grow_Clue.ins → Option (List (Int × Int × Int)) := fun x => slices_Grow_Clue x.2.1
noncomputable def S_slices_Grow_Clue : FSpec := mkF c_slices_Grow_Clue.env.pre c_slices_Grow_Clue.ins c_slices_Grow_Clue.out c_slices_Grow_Clue.inj F_slices_Grow_Clue
theorem h_slices_Grow_Clue : Cert Try.prog 191 S_slices_Grow_Clue := FnCx.certF (c := c_slices_Grow_Clue) F_slices_Grow_Clue (tyOk _ _ _) (spOk trivial) (fun _ _ _ _ _ hs => noDr_ok) Try.func191 rfl rfl Try.ntmps191 (by kernel_rfl) rfl rfl (fun _ => rfl) trivial (fun x => .inl ⟨c_slices_Grow_Clue.start () x, fun _ => rfl⟩) (fun x t hb ht => by
  obtain ⟨_, n1, _⟩ := x
  exact (slices_Grow_Clue_e n1).trans ht)
/-! slices.Concat[[]impl.Clue,impl.Clue] -/
noncomputable def c_slices_Concat_Clue : FnCx := { env := env 36 [(191, S_slices_Grow_Clue)] [], body := bodyOf Try.f182, res := [.tmp 2], ins := [.ro kSSClue], out := [(kSClue, true)], T := List (Int × Int × Int), fin := fun r => r.1.1, inj := fun t => ((t, ()), ((), ())), pts := [([.inLoop [1, 1, 0, 1, 0, 0], .inBlock 0, .code [1, 1, 1]], Shape.mk [Bs.row kSClue 46 false] [(0, Ss.one (Cs.sl 0)), (3, Ss.one (Cs.sc kint)), (9, Ss.one (Cs.sl 0)), (10, Ss.one (Cs.sc kint)), (11, Ss.one (Cs.sc kint))] [Ss.one (Cs.any)]), ([.inLoop [1, 1, 1, 1, 0, 1, 0, 0], .inBlock 2, .code [1, 1, 1, 1, 1]], Shape.mk [Bs.row kwClue 25 true, Bs.row kSClue 46 false] [(6, Ss.one (Cs.sl 0)), (25, Ss.one (Cs.sl 1)), (26, Ss.one (Cs.sc kint)), (27, Ss.one (Cs.sc kint))] [Ss.one (Cs.any)])], fuel := 400, dr := noDr }
noncomputable def slices_Concat_Clue_t1 (g1 : List (List (Int × (Int × Int))) → Int → Int → Int → Option (List (Int × Int × Int))) (g2 : List (Int × (Int × Int)) → List (List (Int × (Int × Int))) → Int → Int → Option (List (Int × Int × Int))) (r0 : List (List (Int × (Int × Int)))) (size3 : Int) (s10 : Int) (s11 : Int) : Option (List (Int × Int × Int)) :=
  bif decide (s11 < s10) then
    bif decide (0 ≤ s11) then
      bif decide (s11 < (↑(List.length r0) : Int)) then
        bif
            decide
              (IntKind.wrap IntKind.i64
                  (size3 +
                    (↑(List.length (rdk kSClue r0 s11)) : Int)) <
                0) then
          none
        else
          g1 r0
            (IntKind.wrap IntKind.i64
              (size3 + (↑(List.length (rdk kSClue r0 s11)) : Int)))
            s10 (IntKind.wrap IntKind.i64 (s11 + 1))
      else none
    else none
  else Option.bind (slices_Grow_Clue size3) fun r => g2 r r0 (↑(List.length r0) : Int) 0
noncomputable def slices_Concat_Clue_t2 (g1 : List (List (Int × (Int × Int))) → Int → Int → Int → Option (List (Int × Int × Int))) (g2 : List (Int × (Int × Int)) → List (List (Int × (Int × Int))) → Int → Int → Option (List (Int × Int × Int))) (r0 : List (Int × (Int × Int))) (r1 : List (List (Int × (Int × Int)))) (s26 : Int) (s27 : Int) : Option (List (Int × Int × Int)) :=
  bif decide (s27 < s26) then
    bif decide (0 ≤ s27) then
      bif decide (s27 < (↑(List.length r1) : Int)) then
        bif
            Nat.ble
              (List.length r0 + List.length (rdk kSClue r1 s27))
              4294967296 then
          g2 (r0 ++ rdk kSClue r1 s27) r1 s26
            (IntKind.wrap IntKind.i64 (s27 + 1))
        else none
      else none
    else none
  else some r0
noncomputable def slices_Concat_Clue_t0 (g1 : List (List (Int × (Int × Int))) → Int → Int → Int → Option (List (Int × Int × Int))) (g2 : List (Int × (Int × Int)) → List (List (Int × (Int × Int))) → Int → Int → Option (List (Int × Int × Int))) (slices0 : List (List (Int × Int × Int))) : Option (List (Int × Int × Int)) :=
  g1 slices0 0 (↑(List.length slices0) : Int) 0
theorem slices_Concat_Clue_ts : Tails c_slices_Concat_Clue.pts c_slices_Concat_Clue.round :=
  ⟨fun s => by
    obtain ⟨⟨r0, _⟩, ⟨_, size3, _, s10, s11, _⟩, ⟨_, _⟩⟩ := s
    refine Tail.eq (Y := fun g => slices_Concat_Clue_t1 (fun r0 size3 s10 s11 => g.1 ((r0, ()), ((), size3, (), s10, s11, ()), ((), ()))) (fun r0 r1 s26 s27 => g.2.1 ((r0, r1, ()), ((), (), s26, s27, ()), ((), ()))) r0 size3 s10 s11) ?_ (fun g => by kernel_rfl)
    simp only [slices_Concat_Clue_t1]; repeat (first | exact Tail.const _ | exact Tail.here _ | exact Tail.there (Tail.here _) | exact Tail.there (Tail.there (Tail.here _)) | exact Tail.there (Tail.there (Tail.there (Tail.here _))) | exact Tail.there (Tail.there (Tail.there (Tail.there (Tail.here _)))) | exact Tail.there (Tail.there (Tail.there (Tail.there (Tail.there (Tail.here _))))) | apply Tail.cond | (apply Tail.bind; intro _)),
  fun s => by
    obtain ⟨⟨r0, r1, _⟩, ⟨_, _, s26, s27, _⟩, ⟨_, _⟩⟩ := s
    refine Tail.eq (Y := fun g => slices_Concat_Clue_t2 (fun r0 size3 s10 s11 => g.1 ((r0, ()), ((), size3, (), s10, s11, ()), ((), ()))) (fun r0 r1 s26 s27 => g.2.1 ((r0, r1, ()), ((), (), s26, s27, ()), ((), ()))) r0 r1 s26 s27) ?_ (fun g => by kernel_rfl)
    simp only [slices_Concat_Clue_t2]; repeat (first | exact Tail.const _ | exact Tail.here _ | exact Tail.there (Tail.here _) | exact Tail.there (Tail.there (Tail.here _)) | exact Tail.there (Tail.there (Tail.there (Tail.here _))) | exact Tail.there (Tail.there (Tail.there (Tail.there (Tail.here _)))) | exact Tail.there (Tail.there (Tail.there (Tail.there (Tail.there (Tail.here _))))) | apply Tail.cond | (apply Tail.bind; intro _)), trivial⟩
theorem slices_Concat_Clue_hs : ∀ x, Tail c_slices_Concat_Clue.pts (fun g => c_slices_Concat_Clue.start g x) := fun x => by
    obtain ⟨slices0, _⟩ := x
    refine Tail.eq (Y := fun g => slices_Concat_Clue_t0 (fun r0 size3 s10 s11 => g.1 ((r0, ()), ((), size3, (), s10, s11, ()), ((), ()))) (fun r0 r1 s26 s27 => g.2.1 ((r0, r1, ()), ((), (), s26, s27, ()), ((), ()))) slices0) ?_ (fun g => by kernel_rfl)
    simp only [slices_Concat_Clue_t0]; repeat (first | exact Tail.const _ | exact Tail.here _ | exact Tail.there (Tail.here _) | exact Tail.there (Tail.there (Tail.here _)) | exact Tail.there (Tail.there (Tail.there (Tail.here _))) | exact Tail.there (Tail.there (Tail.there (Tail.there (Tail.here _)))) | exact Tail.there (Tail.there (Tail.there (Tail.there (Tail.there (Tail.here _))))) | apply Tail.cond | (apply Tail.bind; intro _))
noncomputable def slices_Concat_Clue_L1 (r0 : List (List (Int × (Int × Int)))) (size3 : Int) (s10 : Int) (s11 : Int) : Option (List (Int × Int × Int)) := c_slices_Concat_Clue.L.1 ((r0, ()), ((), size3, (), s10, s11, ()), ((), ()))
noncomputable def slices_Concat_Clue_L2 (r0 : List (Int × (Int × Int))) (r1 : List (List (Int × (Int × Int)))) (s26 : Int) (s27 : Int) : Option (List (Int × Int × Int)) := c_slices_Concat_Clue.L.2.1 ((r0, r1, ()), ((), (), s26, s27, ()), ((), ()))
theorem slices_Concat_Clue_u1 (r0 : List (List (Int × (Int × Int)))) (size3 : Int) (s10 : Int) (s11 : Int) : slices_Concat_Clue_L1 r0 size3 s10 s11 = slices_Concat_Clue_t1 slices_Concat_Clue_L1 slices_Concat_Clue_L2 r0 size3 s10 s11 :=
  (congrArg (fun g => g.1 ((r0, ()), ((), size3, (), s10, s11, ()), ((), ()))) (FnCx.L_eq slices_Concat_Clue_ts)).trans (by kernel_rfl)
theorem slices_Concat_Clue_u2 (r0 : List (Int × (Int × Int))) (r1 : List (List (Int × (Int × Int)))) (s26 : Int) (s27 : Int) : slices_Concat_Clue_L2 r0 r1 s26 s27 = slices_Concat_Clue_t2 slices_Concat_Clue_L1 slices_Concat_Clue_L2 r0 r1 s26 s27 :=
  (congrArg (fun g => g.2.1 ((r0, r1, ()), ((), (), s26, s27, ()), ((), ()))) (FnCx.L_eq slices_Concat_Clue_ts)).trans (by kernel_rfl)
noncomputable def slices_Concat_Clue (slices0 : List (List (Int × Int × Int))) : Option (List (Int × Int × Int)) := slices_Concat_Clue_t0 slices_Concat_Clue_L1 slices_Concat_Clue_L2 slices0
theorem slices_Concat_Clue_e (slices0 : List (List (Int × Int × Int))) : c_slices_Concat_Clue.start c_slices_Concat_Clue.L (slices0, ()) = slices_Concat_Clue slices0 := by kernel_rfl
noncomputable def F_slices_Concat_Clue : Ins c_slices_Concat_Clue.ins → Option (List (Int × Int × Int)) := fun x => slices_Concat_Clue x.1
noncomputable def S_slices_Concat_Clue : FSpec := mkF c_slices_Concat_Clue.env.pre c_slices_Concat_Clue.ins c_slices_Concat_Clue.out c_slices_Concat_Clue.inj F_slices_Concat_Clue
theorem h_slices_Concat_Clue : Cert Try.prog 182 S_slices_Concat_Clue := FnCx.certF (c := c_slices_Concat_Clue) F_slices_Concat_Clue (tyOk _ _ _) (spOk ⟨h_slices_Grow_Clue, fun _ _ _ => trivial, trivial⟩) (fun _ _ _ _ _ hs => noDr_ok) Try.func182 rfl rfl Try.ntmps182 (by kernel_rfl) rfl rfl (fun _ => rfl) slices_Concat_Clue_ts slices_Concat_Clue_hs (fun x t hb ht => by
  obtain ⟨slices0, _⟩ := x
  exact (slices_Concat_Clue_e slices0).trans ht)
/-! impl.without -/
noncomputable def c_i_without : FnCx := { env := env 14 [(182, S_slices_Concat_Clue)] [], body := bodyOf Try.f134, res := [.tmp 4], ins := [.ro kSClue, .ro kint], out := [(kSClue, true)], T := List (Int × Int × Int), fin := fun r => r.1.1, inj := fun t => ((t, ()), ((), (), ())), pts := [], fuel := 400, dr := evDr (env 14 [(182, S_slices_Concat_Clue)] []) }
noncomputable def i_without (clues0 : List (Int × Int × Int)) (k1 : Int) : Option (List (Int × Int × Int)) :=
  bif decide (0 ≤ k1) then
    bif decide (k1 ≤ (↑(List.length clues0) : Int)) then
      bif decide (0 ≤ IntKind.wrap IntKind.i64 (k1 + 1)) then
        bif decide (IntKind.wrap IntKind.i64 (k1 + 1) ≤ (↑(List.length clues0) : Int)) then
          Option.bind
            (slices_Concat_Clue
              [List.take (Int.toNat k1 - Int.toNat 0) (List.drop (Int.toNat 0) clues0),
                List.take (Int.toNat (↑(List.length clues0) : Int) - Int.toNat (IntKind.wrap IntKind.i64 (k1 + 1)))
                  (List.drop (Int.toNat (IntKind.wrap IntKind.i64 (k1 + 1))) clues0)])
            fun r => some r
        else none
      else none
    else none
  else none
theorem i_without_e (clues0 : List (Int × Int × Int)) (k1 : Int) : c_i_without.start c_i_without.L (clues0, k1, ()) = i_without clues0 k1 := by kernel_rfl
noncomputable def F_i_without : Ins c_i_without.ins → Option (List (Int × Int × Int)) := fun x => i_without x.1 x.2.1
noncomputable def S_i_without : FSpec := mkF c_i_without.env.pre c_i_without.ins c_i_without.out c_i_without.inj F_i_without
theorem h_i_without : Cert Try.prog 134 S_i_without := FnCx.certF (c := c_i_without) F_i_without (tyOk _ _ _) (spOk ⟨h_slices_Concat_Clue, fun _ _ _ => trivial, trivial⟩) (fun _ _ _ _ _ hs => evDr_ok (tyOk _ _ _) hs follows) Try.func134 rfl rfl Try.ntmps134 (by kernel_rfl) rfl rfl (fun _ => rfl) trivial (fun x => .inl ⟨c_i_without.start () x, fun _ => rfl⟩) (fun x t hb ht => by
  obtain ⟨clues0, k1, _⟩ := x
  exact (i_without_e clues0 k1).trans ht)
/-! impl.DropClue -/
noncomputable def c_i_DropClue : FnCx := { env := env 24 [(26, S_i_IsPuzzle), (100, S_i_within), (134, S_i_without)] [], body := bodyOf Try.f46, res := [.cell 4 48, .tmp 5], ins := [.ro kPuzzle, .ro kint], out := [(kPuzzle, true), (kbool, true)], T := List (Int × Int × Int) × Bool, fin := fun r => (r.1.1, r.1.2.1), inj := fun t => ((t.1, t.2, ()), ((), (), ())), pts := [], fuel := 400, dr := noDr }
noncomputable def i_DropClue (p0_Clues : List (Int × Int × Int)) (k1 : Int) : Option (List (Int × Int × Int) × Bool) :=
  bif !i_IsPuzzle p0_Clues then some ([], false)
  else
    bif !i_within k1 0 (IntKind.wrap IntKind.i64 ((↑(List.length p0_Clues) : Int) - 1)) then some ([], false)
    else Option.bind (i_without p0_Clues k1) fun r => some (r, true)
theorem i_DropClue_e (p0_Clues : List (Int × Int × Int)) (k1 : Int) : c_i_DropClue.start c_i_DropClue.L (p0_Clues, k1, ()) = i_DropClue p0_Clues k1 := by kernel_rfl
-- NICE tot
theorem i_grow_eq (n : Nat) (h : n ≤ 6) : slices_Grow_Clue n = some [] := by
  unfold slices_Grow_Clue
  have hw0 : IntKind.wrap .i64 (0 - 0) = 0 := rfl
  have hw : IntKind.wrap .i64 ((n : Int) - 0) = n := by rw [wrapI (by omega) (by omega)]; omega
  have hn : ¬ ((n : Int) < 0) := by omega
  rw [hw0, hw, decide_eq_false hn]
  by_cases h0 : n = 0
  · subst h0; rfl
  · have : (0 : Int) < n := by omega
    have hw' : IntKind.wrap .i64 (n : Int) = n := wrapI (by omega) (by omega)
    have h1 : 0 < n := by omega
    have h2 : (n : Int) ≤ 4294967296 := by omega
    simp [h1, h2, hw']
theorem i_concat_eq (a b : List (Int × Int × Int)) (h : a.length + b.length ≤ 6) : slices_Concat_Clue [a, b] = some (a ++ b) := by
  unfold slices_Concat_Clue slices_Concat_Clue_t0
  have hw1 : IntKind.wrap .i64 (0 + (a.length : Int)) = (a.length : Int) := by rw [wrapI (by omega) (by omega)]; omega
  have hw2 : IntKind.wrap .i64 ((a.length : Int) + (b.length : Int)) = ((a.length + b.length : Nat) : Int) := by rw [wrapI (by omega) (by omega)]; omega
  have hn1 : ¬ ((a.length : Int) < 0) := by omega
  have hn2 : ¬ (((a.length + b.length : Nat) : Int) < 0) := by omega
  have r0 : rdk kSClue [a, b] 0 = a := rfl
  have r1 : rdk kSClue [a, b] 1 = b := rfl
  have s1 : IntKind.wrap .i64 (0 + 1) = 1 := rfl
  have s2 : IntKind.wrap .i64 (1 + 1) = 2 := rfl
  have e1 := slices_Concat_Clue_u1 [a, b] 0 (([a, b] : List (List (Int × Int × Int))).length : Int) 0
  have e2 := slices_Concat_Clue_u1 [a, b] (a.length : Int) (([a, b] : List (List (Int × Int × Int))).length : Int) 1
  have e3 := slices_Concat_Clue_u1 [a, b] ((a.length + b.length : Nat) : Int) (([a, b] : List (List (Int × Int × Int))).length : Int) 2
  have e4 := slices_Concat_Clue_u2 [] [a, b] (([a, b] : List (List (Int × Int × Int))).length : Int) 0
  have e5 := slices_Concat_Clue_u2 a [a, b] (([a, b] : List (List (Int × Int × Int))).length : Int) 1
  have e6 := slices_Concat_Clue_u2 (a ++ b) [a, b] (([a, b] : List (List (Int × Int × Int))).length : Int) 2
  unfold slices_Concat_Clue_t1 at e1 e2 e3
  unfold slices_Concat_Clue_t2 at e4 e5 e6
  have hg := i_grow_eq (a.length + b.length) h
  have b1 : a.length ≤ 4294967296 := by omega
  have b2 : a.length + b.length ≤ 4294967296 := by omega
  rw [r0, hw1, s1, decide_eq_false hn1] at e1
  rw [r1, hw2, s2, decide_eq_false hn2] at e2
  rw [hg] at e3
  rw [r0, s1] at e4
  rw [r1, s2] at e5
  simp [ble_dec] at e1 e2 e3 e4 e5 e6
  simp [e1, e2, e3, e4, e5, e6, b1, b2]
theorem i_without_eq (p : List (Int × Int × Int)) (k : Nat) (hk : k < p.length) (hl : p.length ≤ 6) : i_without p k = some (p.take k ++ p.drop (k + 1)) := by
  unfold i_without
  have hw : IntKind.wrap .i64 ((k : Int) + 1) = ((k + 1 : Nat) : Int) := by rw [wrapI (by omega) (by omega)]; omega
  have h1 : (0 : Int) ≤ (k : Int) := by omega
  have h2 : (k : Int) ≤ (p.length : Int) := by omega
  have h3 : (0 : Int) ≤ ((k + 1 : Nat) : Int) := by omega
  have h4 : ((k + 1 : Nat) : Int) ≤ (p.length : Int) := by omega
  rw [hw, decide_eq_true h1, decide_eq_true h2, decide_eq_true h3, decide_eq_true h4]
  simp only [cond_true, Int.toNat_natCast]
  have e1 : (p.drop (k + 1)).take (p.length - (k + 1)) = p.drop (k + 1) := List.take_of_length_le (by simp)
  simp only [Int.toNat_zero, List.drop_zero, Nat.sub_zero, e1]
  rw [i_concat_eq _ _ (by simp; omega)]
  rfl
noncomputable def i_DropClue_n (p : List (Int × Int × Int)) (k : Int) : List (Int × Int × Int) × Bool := s_DropClue_n p k
theorem i_DropClue_ok (p : List (Int × Int × Int)) (k : Int) (hb : BdI c_i_DropClue.ins (p, k, ())) : i_DropClue p k = some (i_DropClue_n p k) := by
  unfold i_DropClue i_DropClue_n s_DropClue_n
  rw [IsPuzzle_eq]
  unfold s_IsPuzzle
  cases h1 : s_pzGood_n p
  · rfl
  · have hl := s_pzGood_len h1
    have hw : IntKind.wrap .i64 ((p.length : Int) - 1) = (p.length : Int) - 1 := by rw [wrapI (by omega) (by omega)]
    have hi : i_within k 0 ((p.length : Int) - 1) = (decide (0 ≤ k) && decide (k < (p.length : Int))) := by
      unfold i_within
      by_cases h : 0 ≤ k <;> by_cases h' : k < (p.length : Int) <;> simp [h, h'] <;> omega
    rw [hw, hi]
    cases hd : (decide (0 ≤ k) && decide (k < (p.length : Int)))
    · rfl
    · simp only [Bool.and_eq_true, decide_eq_true_eq] at hd
      obtain ⟨n, rfl⟩ : ∃ n : Nat, k = n := ⟨k.toNat, (Int.toNat_of_nonneg hd.1).symm⟩
      have := i_without_eq p n (by omega) hl
      simp [this]
noncomputable def F_i_DropClue : Ins c_i_DropClue.ins → (List (Int × Int × Int) × Bool) := fun x => i_DropClue_n x.1 x.2.1
noncomputable def S_i_DropClue : FSpec := mkT c_i_DropClue.env.pre c_i_DropClue.ins c_i_DropClue.out c_i_DropClue.inj F_i_DropClue
theorem h_i_DropClue : Cert Try.prog 46 S_i_DropClue := FnCx.certT (c := c_i_DropClue) F_i_DropClue (tyOk _ _ _) (spOk ⟨h_i_IsPuzzle, fun _ _ _ => trivial, ⟨h_i_within, fun _ _ _ => trivial, ⟨h_i_without, fun _ _ _ => trivial, trivial⟩⟩⟩) (fun _ _ _ _ _ hs => noDr_ok) Try.func46 rfl rfl Try.ntmps46 (by kernel_rfl) rfl rfl (fun _ => rfl) trivial (fun x => .inl ⟨c_i_DropClue.start () x, fun _ => rfl⟩) (fun x hb => by
  obtain ⟨p0_Clues, k1, _⟩ := x
  exact (i_DropClue_e p0_Clues k1).trans (i_DropClue_ok p0_Clues k1 hb))
/-! laws.FnExactDropClue -/
noncomputable def c_w_FnExactDropClue : FnCx := { env := env 101 [(23, S_w_szPuzzle), (25, S_w_toPuzzle), (45, S_s_DropClue), (46, S_i_DropClue), (27, S_w_eqPuzzle), (37, S_w_markPuzzle), (38, S_w_heldPuzzle)] [], body := bodyOf Try.f10, res := [.tmp 4], ins := [.ro kwPuzzle, .ro kint], out := [(kbool, true)], T := Bool, fin := fun r => r.1.1, inj := fun t => ((t, ()), ((), (), ())), pts := [], fuel := 400, dr := evDr (env 101 [(23, S_w_szPuzzle), (25, S_w_toPuzzle), (45, S_s_DropClue), (46, S_i_DropClue), (27, S_w_eqPuzzle), (37, S_w_markPuzzle), (38, S_w_heldPuzzle)] []) }
noncomputable def w_FnExactDropClue (x0_Clues : List (Int × Int × Int)) (x1 : Int) : Option Bool :=
  bif decide (w_szPuzzle x0_Clues 1048576 < 0) then some true
  else
    Option.bind (w_toPuzzle x0_Clues) fun r =>
      Option.bind (w_toPuzzle x0_Clues) fun r_1 =>
        bif !w_eqPuzzle (Prod.fst (i_DropClue_n r_1 x1)) (Prod.fst (s_DropClue_n r x1)) then some false
        else
          bif !Prod.snd (i_DropClue_n r_1 x1) == Prod.snd (s_DropClue_n r x1) then some false
          else
            Option.bind (w_toPuzzle x0_Clues) fun r_2 =>
              bif !w_eqPuzzle r_1 r_2 then some false
              else
                bif decide (markGK nxClue r_1 1 < 0) then some false
                else
                  bif !w_eqPuzzle (Prod.fst (i_DropClue_n r_1 x1)) (Prod.fst (s_DropClue_n r x1)) then some false
                  else
                    bif !Prod.snd (i_DropClue_n r_1 x1) == Prod.snd (s_DropClue_n r x1) then some false
                    else
                      bif decide (w_heldPuzzle (markGL mkClue nxClue (Prod.fst (i_DropClue_n r_1 x1)) 1) 1 < 0) then some false
                      else
                        bif w_heldPuzzle (markGL mkClue nxClue (Prod.fst (i_DropClue_n r_1 x1)) 1) 1 != markGK nxClue (Prod.fst (i_DropClue_n r_1 x1)) 1 then
                          some false
                        else
                          Option.bind (w_toPuzzle x0_Clues) fun r_3 =>
                            bif !w_eqPuzzle (Prod.fst (i_DropClue_n r_3 x1)) (Prod.fst (s_DropClue_n r x1)) then some false
                            else
                              bif !Prod.snd (i_DropClue_n r_3 x1) == Prod.snd (s_DropClue_n r x1) then some false
                              else
                                bif decide (w_heldPuzzle (markGL mkClue nxClue (Prod.fst (i_DropClue_n r_1 x1)) 1) 1 < 0) then some false
                                else
                                  bif
                                      w_heldPuzzle (markGL mkClue nxClue (Prod.fst (i_DropClue_n r_1 x1)) 1) 1 !=
                                        markGK nxClue (Prod.fst (i_DropClue_n r_1 x1)) 1 then
                                    some false
                                  else some true
theorem w_FnExactDropClue_e (x0_Clues : List (Int × Int × Int)) (x1 : Int) : c_w_FnExactDropClue.start c_w_FnExactDropClue.L (x0_Clues, x1, ()) = w_FnExactDropClue x0_Clues x1 := by kernel_rfl
noncomputable def F_w_FnExactDropClue : Ins c_w_FnExactDropClue.ins → Option Bool := fun x => w_FnExactDropClue x.1 x.2.1
noncomputable def S_w_FnExactDropClue : FSpec := mkF c_w_FnExactDropClue.env.pre c_w_FnExactDropClue.ins c_w_FnExactDropClue.out c_w_FnExactDropClue.inj F_w_FnExactDropClue
theorem h_w_FnExactDropClue : Cert Try.prog 10 S_w_FnExactDropClue := FnCx.certF (c := c_w_FnExactDropClue) F_w_FnExactDropClue (tyOk _ _ _) (spOk ⟨h_w_szPuzzle, fun _ _ _ => trivial, ⟨h_w_toPuzzle, fun _ _ _ => trivial, ⟨h_s_DropClue, fun _ _ _ => trivial, ⟨h_i_DropClue, fun _ _ _ => trivial, ⟨h_w_eqPuzzle, fun _ _ _ => trivial, ⟨h_w_markPuzzle, fun _ _ _ => trivial, ⟨h_w_heldPuzzle, fun _ _ _ => trivial, trivial⟩⟩⟩⟩⟩⟩⟩) (fun _ _ _ _ _ hs => evDr_ok (tyOk _ _ _) hs follows) Try.func10 rfl rfl Try.ntmps10 (by kernel_rfl) rfl rfl (fun _ => rfl) trivial (fun x => .inl ⟨c_w_FnExactDropClue.start () x, fun _ => rfl⟩) (fun x t hb ht => by
  obtain ⟨x0_Clues, x1, _⟩ := x
  exact (w_FnExactDropClue_e x0_Clues x1).trans ht)
end Go.Proofs.Ytinmfblemgkboaa.V
