/- Functions of the program, as plain functions. No condition. -/
import Derived.Test.YtlffgllmjjkfdaaDoorJ1
set_option linter.unusedVariables false
set_option linter.unusedSimpArgs false
set_option maxRecDepth 100000
namespace Go.Proofs.YtlffgllmjjkfdaaDoor.V
open Go Go.Ev Go.Proofs
/-! spec.pzClue -/
noncomputable def c_s_pzClue : FnCx := { env := env 37 [(42, S_s_l1In)] [], body := bodyOf Tryd.f50, res := [.tmp 2], ins := [.ro kClue], out := [(kbool, true)], T := Bool, fin := fun r => r.1.1, inj := fun t => ((t, ()), ((), ())), pts := [], fuel := 400, dr := noDr }
noncomputable def s_pzClue (c0_Kind : Int) (c0_A : Int) (c0_B : Int) : Bool :=
  bif !s_l1In c0_B 0 60 then false
  else
    bif c0_Kind == 0 then c0_A == 0
    else
      bif c0_Kind == 1 then c0_A == 0
      else
        bif c0_Kind == 4 then c0_A == 0
        else
          bif c0_Kind == 5 then c0_A == 0
          else
            bif c0_Kind == 2 then bif s_l1In c0_A 1 3 then decide (c0_B < 2) else false
            else bif c0_Kind == 3 then bif s_l1In c0_A 1 7 then decide (c0_B < 2) else false else false
theorem s_pzClue_e (c0_Kind : Int) (c0_A : Int) (c0_B : Int) : c_s_pzClue.start c_s_pzClue.L ((c0_Kind, c0_A, c0_B), ()) = some (s_pzClue c0_Kind c0_A c0_B) := by
  refine Eq.trans (b := (bif !s_l1In c0_B 0 60 then some false else bif c0_Kind == 0 then some (c0_A == 0) else bif c0_Kind == 1 then some (c0_A == 0) else bif c0_Kind == 4 then some (c0_A == 0) else bif c0_Kind == 5 then some (c0_A == 0) else bif c0_Kind == 2 then bif s_l1In c0_A 1 3 then some (decide (c0_B < 2)) else some false else bif c0_Kind == 3 then bif s_l1In c0_A 1 7 then some (decide (c0_B < 2)) else some false else some false : Option Bool)) (by kernel_rfl) ?_
  unfold s_pzClue
  repeat (first | rfl | apply condS)
noncomputable def F_s_pzClue : Ins c_s_pzClue.ins → Bool := fun x => s_pzClue x.1.1 x.1.2.1 x.1.2.2
noncomputable def S_s_pzClue : FSpec := mkT c_s_pzClue.env.pre c_s_pzClue.ins c_s_pzClue.out c_s_pzClue.inj F_s_pzClue
theorem h_s_pzClue : Cert Tryd.prog 50 S_s_pzClue := FnCx.certT (c := c_s_pzClue) F_s_pzClue (tyOk _ _ _) (spOk ⟨h_s_l1In, fun _ _ h => h, trivial⟩) (fun _ _ _ _ _ hs => noDr_ok) Tryd.func50 rfl rfl Tryd.ntmps50 (by kernel_rfl) rfl rfl (fun _ => rfl) trivial (fun x => .inl ⟨c_s_pzClue.start () x, fun _ => rfl⟩) (fun x hb => by
  obtain ⟨⟨c0_Kind, c0_A, c0_B⟩, _⟩ := x
  exact s_pzClue_e c0_Kind c0_A c0_B)
/-! spec.pzGood -/
noncomputable def c_s_pzGood : FnCx := { env := env 20 [(50, S_s_pzClue)] [], body := bodyOf Tryd.f29, res := [.tmp 2], ins := [.ro kPuzzle], out := [(kbool, true)], T := Bool, fin := fun r => r.1.1, inj := fun t => ((t, ()), ((), ())), pts := [([.inLoop [1, 1, 0, 1, 0, 0], .inBlock 0, .code [1, 1, 1]], Shape.mk [Bs.row kClue 54 false] [(10, Ss.one (Cs.sl 0)), (11, Ss.one (Cs.sc kint)), (12, Ss.one (Cs.sc kint))] [Ss.one (Cs.any)])], fuel := 400, dr := noDr }
noncomputable def s_pzGood_t1 (g1 : List (Int × (Int × Int)) → Int → Int → Option (Bool)) (r0 : List (Int × (Int × Int))) (s11 : Int) (s12 : Int) : Option Bool :=
  bif decide (s12 < s11) then
    bif decide (0 ≤ s12) then
      bif decide (s12 < (↑(List.length r0) : Int)) then
        bif
            !s_pzClue (Prod.fst (rdk kClue r0 s12))
                (Prod.fst (Prod.snd (rdk kClue r0 s12)))
                (Prod.snd (Prod.snd (rdk kClue r0 s12))) then
          some false
        else g1 r0 s11 (IntKind.wrap IntKind.i64 (s12 + 1))
      else none
    else none
  else some true
noncomputable def s_pzGood_t0 (g1 : List (Int × (Int × Int)) → Int → Int → Option (Bool)) (p0_Clues : List (Int × Int × Int)) : Option Bool :=
  bif decide ((↑(List.length p0_Clues) : Int) > 6) then some false else g1 p0_Clues (↑(List.length p0_Clues) : Int) 0
theorem s_pzGood_ts : Tails c_s_pzGood.pts c_s_pzGood.round :=
  ⟨fun s => by
    obtain ⟨⟨r0, _⟩, ⟨_, s11, s12, _⟩, ⟨_, _⟩⟩ := s
    refine Tail.eq (Y := fun g => s_pzGood_t1 (fun r0 s11 s12 => g.1 ((r0, ()), ((), s11, s12, ()), ((), ()))) r0 s11 s12) ?_ (fun g => by kernel_rfl)
    simp only [s_pzGood_t1]; repeat (first | exact Tail.const _ | exact Tail.here _ | exact Tail.there (Tail.here _) | exact Tail.there (Tail.there (Tail.here _)) | exact Tail.there (Tail.there (Tail.there (Tail.here _))) | exact Tail.there (Tail.there (Tail.there (Tail.there (Tail.here _)))) | exact Tail.there (Tail.there (Tail.there (Tail.there (Tail.there (Tail.here _))))) | apply Tail.cond | (apply Tail.bind; intro _)), trivial⟩
theorem s_pzGood_hs : ∀ x, Tail c_s_pzGood.pts (fun g => c_s_pzGood.start g x) := fun x => by
    obtain ⟨p0_Clues, _⟩ := x
    refine Tail.eq (Y := fun g => s_pzGood_t0 (fun r0 s11 s12 => g.1 ((r0, ()), ((), s11, s12, ()), ((), ()))) p0_Clues) ?_ (fun g => by kernel_rfl)
    simp only [s_pzGood_t0]; repeat (first | exact Tail.const _ | exact Tail.here _ | exact Tail.there (Tail.here _) | exact Tail.there (Tail.there (Tail.here _)) | exact Tail.there (Tail.there (Tail.there (Tail.here _))) | exact Tail.there (Tail.there (Tail.there (Tail.there (Tail.here _)))) | exact Tail.there (Tail.there (Tail.there (Tail.there (Tail.there (Tail.here _))))) | apply Tail.cond | (apply Tail.bind; intro _))
noncomputable def s_pzGood_L1 (r0 : List (Int × (Int × Int))) (s11 : Int) (s12 : Int) : Option Bool := c_s_pzGood.L.1 ((r0, ()), ((), s11, s12, ()), ((), ()))
theorem s_pzGood_u1 (r0 : List (Int × (Int × Int))) (s11 : Int) (s12 : Int) : s_pzGood_L1 r0 s11 s12 = s_pzGood_t1 s_pzGood_L1 r0 s11 s12 :=
  (congrArg (fun g => g.1 ((r0, ()), ((), s11, s12, ()), ((), ()))) (FnCx.L_eq s_pzGood_ts)).trans (by kernel_rfl)
noncomputable def s_pzGood (p0_Clues : List (Int × Int × Int)) : Option Bool := s_pzGood_t0 s_pzGood_L1 p0_Clues
theorem s_pzGood_e (p0_Clues : List (Int × Int × Int)) : c_s_pzGood.start c_s_pzGood.L (p0_Clues, ()) = s_pzGood p0_Clues := by kernel_rfl
-- NICE tot
noncomputable def s_pzGood_n (l : List (Int × Int × Int)) : Bool := bif decide ((l.length : Int) > 6) then false else bif l.any (fun c => !s_pzClue c.1 c.2.1 c.2.2) then false else true
theorem s_pzGood_ok (l : List (Int × Int × Int)) (hb : BdI c_s_pzGood.ins (l, ())) : s_pzGood l = some (s_pzGood_n l) := by
  have e := loop_any (L := fun i => s_pzGood_L1 l l.length (i : Int)) (l := l) (p := fun c => !s_pzClue c.1 c.2.1 c.2.2) (a := false) (b := true)
    (fun i h => by simp only [s_pzGood_u1 l l.length i, s_pzGood_t1, rdk_get (k := kClue) h, wrapS h hb.1.1]; simp [h]) (by simp [s_pzGood_u1 l l.length l.length, s_pzGood_t1])
  unfold s_pzGood s_pzGood_t0 s_pzGood_n
  cases decide ((l.length : Int) > 6)
  · exact e
  · rfl
theorem s_pzGood_len {p : List (Int × Int × Int)} (h : s_pzGood_n p = true) : p.length ≤ 6 := by
  unfold s_pzGood_n at h
  cases hl : decide ((p.length : Int) > 6)
  · have := of_decide_eq_false hl; omega
  · rw [hl] at h; cases h
noncomputable def F_s_pzGood : Ins c_s_pzGood.ins → Bool := fun x => s_pzGood_n x.1
noncomputable def S_s_pzGood : FSpec := mkT c_s_pzGood.env.pre c_s_pzGood.ins c_s_pzGood.out c_s_pzGood.inj F_s_pzGood
theorem h_s_pzGood : Cert Tryd.prog 29 S_s_pzGood := FnCx.certT (c := c_s_pzGood) F_s_pzGood (tyOk _ _ _) (spOk ⟨h_s_pzClue, fun _ _ h => h, trivial⟩) (fun _ _ _ _ _ hs => noDr_ok) Tryd.func29 rfl rfl Tryd.ntmps29 (by kernel_rfl) rfl rfl (fun _ => rfl) s_pzGood_ts s_pzGood_hs (fun x hb => by
  obtain ⟨p0_Clues, _⟩ := x
  exact (s_pzGood_e p0_Clues).trans (s_pzGood_ok p0_Clues hb))
/-! spec.pzText -/
noncomputable def c_s_pzText : FnCx := { env := env 35 [(44, S_s_l1Num)] [], body := bodyOf Tryd.f30, res := [.tmp 2], ins := [.ro kPuzzle], out := [(kstring, true)], T := ByteArray, fin := fun r => r.1.1, inj := fun t => ((t, ()), ((), ())), pts := [([.inLoop [1, 1, 0, 1, 0, 0], .inBlock 0, .code [1, 1, 1]], Shape.mk [Bs.row kClue 54 false] [(3, Ss.one (Cs.sc kstring)), (7, Ss.one (Cs.sl 0)), (8, Ss.one (Cs.sc kint)), (9, Ss.one (Cs.sc kint))] [Ss.one (Cs.any)])], fuel := 400, dr := evDr (env 35 [(44, S_s_l1Num)] []) }
noncomputable def s_pzText_t1 (g1 : List (Int × (Int × Int)) → ByteArray → Int → Int → Option (ByteArray)) (r0 : List (Int × (Int × Int))) (out3 : ByteArray) (s8 : Int) (s9 : Int) : Option ByteArray :=
  bif decide (s9 < s8) then
    bif decide (0 ≤ s9) then
      bif decide (s9 < (↑(List.length r0) : Int)) then
        bif decide (s9 > 0) then
          bif Nat.ble (ByteArray.size out3 + ByteArray.size { data := #[44] }) 9223372036854775807 then
            Option.bind (s_l1Num_n (Prod.fst (rdk kClue r0 s9))) fun r =>
              bif Nat.ble (ByteArray.size r + ByteArray.size { data := #[46] }) 9223372036854775807 then
                Option.bind
                  (s_l1Num_n (Prod.fst (Prod.snd (rdk kClue r0 s9))))
                  fun r_1 =>
                  bif Nat.ble (ByteArray.size (r ++ { data := #[46] }) + ByteArray.size r_1) 9223372036854775807 then
                    bif Nat.ble (ByteArray.size (r ++ { data := #[46] } ++ r_1) + ByteArray.size { data := #[46] }) 9223372036854775807 then
                      Option.bind
                        (s_l1Num_n (Prod.snd (Prod.snd (rdk kClue r0 s9))))
                        fun r_2 =>
                        bif Nat.ble (ByteArray.size (r ++ { data := #[46] } ++ r_1 ++ { data := #[46] }) + ByteArray.size r_2) 9223372036854775807 then
                          bif
                              Nat.ble (ByteArray.size (out3 ++ { data := #[44] }) + ByteArray.size (r ++ { data := #[46] } ++ r_1 ++ { data := #[46] } ++ r_2))
                                9223372036854775807 then
                            g1 r0 (out3 ++ { data := #[44] } ++ (r ++ { data := #[46] } ++ r_1 ++ { data := #[46] } ++ r_2)) s8
                              (IntKind.wrap IntKind.i64 (s9 + 1))
                          else none
                        else none
                    else none
                  else none
              else none
          else none
        else
          Option.bind (s_l1Num_n (Prod.fst (rdk kClue r0 s9))) fun r =>
            bif Nat.ble (ByteArray.size r + ByteArray.size { data := #[46] }) 9223372036854775807 then
              Option.bind (s_l1Num_n (Prod.fst (Prod.snd (rdk kClue r0 s9))))
                fun r_1 =>
                bif Nat.ble (ByteArray.size (r ++ { data := #[46] }) + ByteArray.size r_1) 9223372036854775807 then
                  bif Nat.ble (ByteArray.size (r ++ { data := #[46] } ++ r_1) + ByteArray.size { data := #[46] }) 9223372036854775807 then
                    Option.bind
                      (s_l1Num_n (Prod.snd (Prod.snd (rdk kClue r0 s9))))
                      fun r_2 =>
                      bif Nat.ble (ByteArray.size (r ++ { data := #[46] } ++ r_1 ++ { data := #[46] }) + ByteArray.size r_2) 9223372036854775807 then
                        bif Nat.ble (ByteArray.size out3 + ByteArray.size (r ++ { data := #[46] } ++ r_1 ++ { data := #[46] } ++ r_2)) 9223372036854775807 then
                          g1 r0 (out3 ++ (r ++ { data := #[46] } ++ r_1 ++ { data := #[46] } ++ r_2)) s8 (IntKind.wrap IntKind.i64 (s9 + 1))
                        else none
                      else none
                  else none
                else none
            else none
      else none
    else none
  else some out3
noncomputable def s_pzText_t0 (g1 : List (Int × (Int × Int)) → ByteArray → Int → Int → Option (ByteArray)) (p0_Clues : List (Int × Int × Int)) : Option ByteArray :=
  g1 p0_Clues { data := #[] } (↑(List.length p0_Clues) : Int) 0
theorem s_pzText_ts : Tails c_s_pzText.pts c_s_pzText.round :=
  ⟨fun s => by
    obtain ⟨⟨r0, _⟩, ⟨out3, _, s8, s9, _⟩, ⟨_, _⟩⟩ := s
    refine Tail.eq (Y := fun g => s_pzText_t1 (fun r0 out3 s8 s9 => g.1 ((r0, ()), (out3, (), s8, s9, ()), ((), ()))) r0 out3 s8 s9) ?_ (fun g => by kernel_rfl)
    simp only [s_pzText_t1]; repeat (first | apply Tail.cond | (apply Tail.bind; intro _) | exact Tail.here _ | exact Tail.there (Tail.here _) | exact Tail.there (Tail.there (Tail.here _)) | exact Tail.there (Tail.there (Tail.there (Tail.here _))) | exact Tail.there (Tail.there (Tail.there (Tail.there (Tail.here _)))) | exact Tail.there (Tail.there (Tail.there (Tail.there (Tail.there (Tail.here _))))) | exact Tail.const _), trivial⟩
theorem s_pzText_hs : ∀ x, Tail c_s_pzText.pts (fun g => c_s_pzText.start g x) := fun x => by
    obtain ⟨p0_Clues, _⟩ := x
    refine Tail.eq (Y := fun g => s_pzText_t0 (fun r0 out3 s8 s9 => g.1 ((r0, ()), (out3, (), s8, s9, ()), ((), ()))) p0_Clues) ?_ (fun g => by kernel_rfl)
    simp only [s_pzText_t0]; repeat (first | apply Tail.cond | (apply Tail.bind; intro _) | exact Tail.here _ | exact Tail.there (Tail.here _) | exact Tail.there (Tail.there (Tail.here _)) | exact Tail.there (Tail.there (Tail.there (Tail.here _))) | exact Tail.there (Tail.there (Tail.there (Tail.there (Tail.here _)))) | exact Tail.there (Tail.there (Tail.there (Tail.there (Tail.there (Tail.here _))))) | exact Tail.const _)
noncomputable def s_pzText_L1 (r0 : List (Int × (Int × Int))) (out3 : ByteArray) (s8 : Int) (s9 : Int) : Option ByteArray := c_s_pzText.L.1 ((r0, ()), (out3, (), s8, s9, ()), ((), ()))
theorem s_pzText_u1 (r0 : List (Int × (Int × Int))) (out3 : ByteArray) (s8 : Int) (s9 : Int) : s_pzText_L1 r0 out3 s8 s9 = s_pzText_t1 s_pzText_L1 r0 out3 s8 s9 :=
  (congrArg (fun g => g.1 ((r0, ()), (out3, (), s8, s9, ()), ((), ()))) (FnCx.L_eq s_pzText_ts)).trans (by kernel_rfl)
noncomputable def s_pzText (p0_Clues : List (Int × Int × Int)) : Option ByteArray := s_pzText_t0 s_pzText_L1 p0_Clues
theorem s_pzText_e (p0_Clues : List (Int × Int × Int)) : c_s_pzText.start c_s_pzText.L (p0_Clues, ()) = s_pzText p0_Clues := by kernel_rfl
noncomputable def F_s_pzText : Ins c_s_pzText.ins → Option ByteArray := fun x => s_pzText x.1
noncomputable def S_s_pzText : FSpec := mkF c_s_pzText.env.pre c_s_pzText.ins c_s_pzText.out c_s_pzText.inj F_s_pzText
theorem h_s_pzText : Cert Tryd.prog 30 S_s_pzText := FnCx.certF (c := c_s_pzText) F_s_pzText (tyOk _ _ _) (spOk ⟨h_s_l1Num, fun _ _ h => h, trivial⟩) (fun _ _ _ _ _ hs => evDr_ok (tyOk _ _ _) hs follows) Tryd.func30 rfl rfl Tryd.ntmps30 (by kernel_rfl) rfl rfl (fun _ => rfl) s_pzText_ts s_pzText_hs (fun x t hb ht => by
  obtain ⟨p0_Clues, _⟩ := x
  exact (s_pzText_e p0_Clues).trans ht)
/-! spec.pzParse -/
noncomputable def c_s_pzParse : FnCx := { env := env 57 [(35, S_s_l1Split), (36, S_s_l1Read), (29, S_s_pzGood), (30, S_s_pzText)] [], body := bodyOf Tryd.f38, res := [.cell 2 35, .tmp 3], ins := [.ro kstring], out := [(kPuzzle, true), (kbool, true)], T := List (Int × Int × Int) × Bool, fin := fun r => (r.1.1, r.1.2.1), inj := fun t => ((t.1, t.2, ()), ((), ())), pts := [([.inLoop [1, 1, 1, 1, 0, 1, 0, 0], .inBlock 0, .code [1, 1, 1, 1, 1]], Shape.mk [Bs.box 35 [Cs.sl 3], Bs.box 35 [Cs.sl 4], Bs.row kstring 9 true, Bs.row kClue 54 true, Bs.row kClue 54 true] [(0, Ss.one (Cs.sc kstring)), (2, Ss.one (Cs.ptr 0 0)), (4, Ss.one (Cs.ptr 1 0)), (17, Ss.one (Cs.sl 2)), (18, Ss.one (Cs.sc kint)), (19, Ss.one (Cs.sc kint))] [Ss.one (Cs.any)])], fuel := 400, dr := evDr (env 57 [(35, S_s_l1Split), (36, S_s_l1Read), (29, S_s_pzGood), (30, S_s_pzText)] []) }
noncomputable def s_pzParse_t1 (g1 : List (ByteArray) → List (Int × (Int × Int)) → List (Int × (Int × Int)) → ByteArray → Int → Int → Option (List (Int × Int × Int) × Bool)) (r2 : List (ByteArray)) (r3 : List (Int × (Int × Int))) (r4 : List (Int × (Int × Int))) (t0 : ByteArray) (s18 : Int) (s19 : Int) : Option (List (Int × Int × Int) × Bool) :=
  bif decide (s19 < s18) then
    bif decide (0 ≤ s19) then
      bif decide (s19 < (↑(List.length r2) : Int)) then
        Option.bind (s_l1Split (rdk kstring r2 s19) 46) fun r =>
          bif (↑(List.length r) : Int) != 3 then some (r4, false)
          else
            bif decide (0 < (↑(List.length r) : Int)) then
              Option.bind (s_l1Read (rdk kstring r 0)) fun r_1 =>
                bif decide (1 < (↑(List.length r) : Int)) then
                  Option.bind (s_l1Read (rdk kstring r 1)) fun r_2 =>
                    bif decide (2 < (↑(List.length r) : Int)) then
                      Option.bind (s_l1Read (rdk kstring r 2)) fun r =>
                        bif Nat.ble (List.length r4 + 1) 4294967296 then g1 r2 r3 (r4 ++ [(r_1, r_2, r)]) t0 s18 (IntKind.wrap IntKind.i64 (s19 + 1)) else none
                    else none
                else none
            else none
      else none
    else none
  else bif s_pzGood_n r4 then Option.bind (s_pzText r4) fun r => some (r4, ByteArray.toList r == ByteArray.toList t0) else some (r4, false)
noncomputable def s_pzParse_t0 (g1 : List (ByteArray) → List (Int × (Int × Int)) → List (Int × (Int × Int)) → ByteArray → Int → Int → Option (List (Int × Int × Int) × Bool)) (t0 : ByteArray) : Option (List (Int × Int × Int) × Bool) :=
  bif decide ((↑(ByteArray.size t0) : Int) > 60) then some ([], false)
  else
    bif ByteArray.toList t0 == ByteArray.toList { data := #[] } then some ([], true)
    else Option.bind (s_l1Split t0 44) fun r => g1 r [] [] t0 (↑(List.length r) : Int) 0
theorem s_pzParse_ts : Tails c_s_pzParse.pts c_s_pzParse.round :=
  ⟨fun s => by
    obtain ⟨⟨⟨_, _⟩, ⟨_, _⟩, r2, r3, r4, _⟩, ⟨t0, _, _, _, s18, s19, _⟩, ⟨_, _⟩⟩ := s
    refine Tail.eq (Y := fun g => s_pzParse_t1 (fun r2 r3 r4 t0 s18 s19 => g.1 ((((), ()), ((), ()), r2, r3, r4, ()), (t0, (), (), (), s18, s19, ()), ((), ()))) r2 r3 r4 t0 s18 s19) ?_ (fun g => by kernel_rfl)
    simp only [s_pzParse_t1]; repeat (first | apply Tail.cond | (apply Tail.bind; intro _) | exact Tail.here _ | exact Tail.there (Tail.here _) | exact Tail.there (Tail.there (Tail.here _)) | exact Tail.there (Tail.there (Tail.there (Tail.here _))) | exact Tail.there (Tail.there (Tail.there (Tail.there (Tail.here _)))) | exact Tail.there (Tail.there (Tail.there (Tail.there (Tail.there (Tail.here _))))) | exact Tail.const _), trivial⟩
theorem s_pzParse_hs : ∀ x, Tail c_s_pzParse.pts (fun g => c_s_pzParse.start g x) := fun x => by
    obtain ⟨t0, _⟩ := x
    refine Tail.eq (Y := fun g => s_pzParse_t0 (fun r2 r3 r4 t0 s18 s19 => g.1 ((((), ()), ((), ()), r2, r3, r4, ()), (t0, (), (), (), s18, s19, ()), ((), ()))) t0) ?_ (fun g => by kernel_rfl)
    simp only [s_pzParse_t0]; repeat (first | apply Tail.cond | (apply Tail.bind; intro _) | exact Tail.here _ | exact Tail.there (Tail.here _) | exact Tail.there (Tail.there (Tail.here _)) | exact Tail.there (Tail.there (Tail.there (Tail.here _))) | exact Tail.there (Tail.there (Tail.there (Tail.there (Tail.here _)))) | exact Tail.there (Tail.there (Tail.there (Tail.there (Tail.there (Tail.here _))))) | exact Tail.const _)
noncomputable def s_pzParse_L1 (r2 : List (ByteArray)) (r3 : List (Int × (Int × Int))) (r4 : List (Int × (Int × Int))) (t0 : ByteArray) (s18 : Int) (s19 : Int) : Option (List (Int × Int × Int) × Bool) := c_s_pzParse.L.1 ((((), ()), ((), ()), r2, r3, r4, ()), (t0, (), (), (), s18, s19, ()), ((), ()))
theorem s_pzParse_u1 (r2 : List (ByteArray)) (r3 : List (Int × (Int × Int))) (r4 : List (Int × (Int × Int))) (t0 : ByteArray) (s18 : Int) (s19 : Int) : s_pzParse_L1 r2 r3 r4 t0 s18 s19 = s_pzParse_t1 s_pzParse_L1 r2 r3 r4 t0 s18 s19 :=
  (congrArg (fun g => g.1 ((((), ()), ((), ()), r2, r3, r4, ()), (t0, (), (), (), s18, s19, ()), ((), ()))) (FnCx.L_eq s_pzParse_ts)).trans (by kernel_rfl)
noncomputable def s_pzParse (t0 : ByteArray) : Option (List (Int × Int × Int) × Bool) := s_pzParse_t0 s_pzParse_L1 t0
theorem s_pzParse_e (t0 : ByteArray) : c_s_pzParse.start c_s_pzParse.L (t0, ()) = s_pzParse t0 := by kernel_rfl
noncomputable def F_s_pzParse : Ins c_s_pzParse.ins → Option (List (Int × Int × Int) × Bool) := fun x => s_pzParse x.1
noncomputable def S_s_pzParse : FSpec := mkF c_s_pzParse.env.pre c_s_pzParse.ins c_s_pzParse.out c_s_pzParse.inj F_s_pzParse
theorem h_s_pzParse : Cert Tryd.prog 38 S_s_pzParse := FnCx.certF (c := c_s_pzParse) F_s_pzParse (tyOk _ _ _) (spOk ⟨h_s_l1Split, fun _ _ h => h, ⟨h_s_l1Read, fun _ _ h => h, ⟨h_s_pzGood, fun _ _ h => h, ⟨h_s_pzText, fun _ _ h => h, trivial⟩⟩⟩⟩) (fun _ _ _ _ _ hs => evDr_ok (tyOk _ _ _) hs follows) Tryd.func38 rfl rfl Tryd.ntmps38 (by kernel_rfl) rfl rfl (fun _ => rfl) s_pzParse_ts s_pzParse_hs (fun x t hb ht => by
  obtain ⟨t0, _⟩ := x
  exact (s_pzParse_e t0).trans ht)
/-! spec.ParsePuzzle -/
noncomputable def c_s_ParsePuzzle : FnCx := { env := env 15 [(38, S_s_pzParse)] [], body := bodyOf Tryd.f20, res := [.cell 2 35, .tmp 3], ins := [.ro kstring], out := [(kPuzzle, true), (kbool, true)], T := List (Int × Int × Int) × Bool, fin := fun r => (r.1.1, r.1.2.1), inj := fun t => ((t.1, t.2, ()), ((), ())), pts := [], fuel := 400, dr := noDr }
noncomputable def s_ParsePuzzle (t0 : ByteArray) : Option (List (Int × Int × Int) × Bool) :=
  Option.bind (s_pzParse t0) fun r => bif !Prod.snd r then some ([], false) else some (Prod.fst r, true)
theorem s_ParsePuzzle_e (t0 : ByteArray) : c_s_ParsePuzzle.start c_s_ParsePuzzle.L (t0, ()) = s_ParsePuzzle t0 := by kernel_rfl
noncomputable def F_s_ParsePuzzle : Ins c_s_ParsePuzzle.ins → Option (List (Int × Int × Int) × Bool) := fun x => s_ParsePuzzle x.1
noncomputable def S_s_ParsePuzzle : FSpec := mkF c_s_ParsePuzzle.env.pre c_s_ParsePuzzle.ins c_s_ParsePuzzle.out c_s_ParsePuzzle.inj F_s_ParsePuzzle
theorem h_s_ParsePuzzle : Cert Tryd.prog 20 S_s_ParsePuzzle := FnCx.certF (c := c_s_ParsePuzzle) F_s_ParsePuzzle (tyOk _ _ _) (spOk ⟨h_s_pzParse, fun _ _ h => h, trivial⟩) (fun _ _ _ _ _ hs => noDr_ok) Tryd.func20 rfl rfl Tryd.ntmps20 (by kernel_rfl) rfl rfl (fun _ => rfl) trivial (fun x => .inl ⟨c_s_ParsePuzzle.start () x, fun _ => rfl⟩) (fun x t hb ht => by
  obtain ⟨t0, _⟩ := x
  exact (s_ParsePuzzle_e t0).trans ht)
/-! impl.IsClue -/
noncomputable def c_i_IsClue : FnCx := { env := env 38 [(45, S_i_within)] [], body := bodyOf Tryd.f54, res := [.tmp 2], ins := [.ro kClue], out := [(kbool, true)], T := Bool, fin := fun r => r.1.1, inj := fun t => ((t, ()), ((), ())), pts := [], fuel := 400, dr := noDr }
noncomputable def i_IsClue (c0_Kind : Int) (c0_A : Int) (c0_B : Int) : Bool :=
  bif !i_within c0_Kind 0 5 then false
  else
    bif !i_within c0_B 0 60 then false
    else
      bif c0_Kind == 2 then bif i_within c0_A 1 3 then decide (c0_B ≤ 1) else false
      else bif c0_Kind == 3 then bif i_within c0_A 1 7 then decide (c0_B ≤ 1) else false else c0_A == 0
theorem i_IsClue_e (c0_Kind : Int) (c0_A : Int) (c0_B : Int) : c_i_IsClue.start c_i_IsClue.L ((c0_Kind, c0_A, c0_B), ()) = some (i_IsClue c0_Kind c0_A c0_B) := by
  refine Eq.trans (b := (bif !i_within c0_Kind 0 5 then some false else bif !i_within c0_B 0 60 then some false else bif c0_Kind == 2 then bif i_within c0_A 1 3 then some (decide (c0_B ≤ 1)) else some false else bif c0_Kind == 3 then bif i_within c0_A 1 7 then some (decide (c0_B ≤ 1)) else some false else some (c0_A == 0) : Option Bool)) (by kernel_rfl) ?_
  unfold i_IsClue
  repeat (first | rfl | apply condS)
noncomputable def F_i_IsClue : Ins c_i_IsClue.ins → Bool := fun x => i_IsClue x.1.1 x.1.2.1 x.1.2.2
noncomputable def S_i_IsClue : FSpec := mkT c_i_IsClue.env.pre c_i_IsClue.ins c_i_IsClue.out c_i_IsClue.inj F_i_IsClue
theorem h_i_IsClue : Cert Tryd.prog 54 S_i_IsClue := FnCx.certT (c := c_i_IsClue) F_i_IsClue (tyOk _ _ _) (spOk ⟨h_i_within, fun _ _ h => h, trivial⟩) (fun _ _ _ _ _ hs => noDr_ok) Tryd.func54 rfl rfl Tryd.ntmps54 (by kernel_rfl) rfl rfl (fun _ => rfl) trivial (fun x => .inl ⟨c_i_IsClue.start () x, fun _ => rfl⟩) (fun x hb => by
  obtain ⟨⟨c0_Kind, c0_A, c0_B⟩, _⟩ := x
  exact i_IsClue_e c0_Kind c0_A c0_B)
/-! impl.IsPuzzle$1 -/
noncomputable def c_i_IsPuzzle_c1 : FnCx := { env := env 6 [(54, S_i_IsClue)] [], body := bodyOf Tryd.f53, res := [.tmp 2], ins := [.ro kClue], out := [(kbool, true)], T := Bool, fin := fun r => r.1.1, inj := fun t => ((t, ()), ((), ())), pts := [], fuel := 400, dr := noDr }
noncomputable def i_IsPuzzle_c1 (c0_Kind : Int) (c0_A : Int) (c0_B : Int) : Bool :=
  !i_IsClue c0_Kind c0_A c0_B
theorem i_IsPuzzle_c1_e (c0_Kind : Int) (c0_A : Int) (c0_B : Int) : c_i_IsPuzzle_c1.start c_i_IsPuzzle_c1.L ((c0_Kind, c0_A, c0_B), ()) = some (i_IsPuzzle_c1 c0_Kind c0_A c0_B) := by kernel_rfl
noncomputable def F_i_IsPuzzle_c1 : Ins c_i_IsPuzzle_c1.ins → Bool := fun x => i_IsPuzzle_c1 x.1.1 x.1.2.1 x.1.2.2
noncomputable def S_i_IsPuzzle_c1 : FSpec := mkT c_i_IsPuzzle_c1.env.pre c_i_IsPuzzle_c1.ins c_i_IsPuzzle_c1.out c_i_IsPuzzle_c1.inj F_i_IsPuzzle_c1
theorem h_i_IsPuzzle_c1 : Cert Tryd.prog 53 S_i_IsPuzzle_c1 := FnCx.certT (c := c_i_IsPuzzle_c1) F_i_IsPuzzle_c1 (tyOk _ _ _) (spOk ⟨h_i_IsClue, fun _ _ h => h, trivial⟩) (fun _ _ _ _ _ hs => noDr_ok) Tryd.func53 rfl rfl Tryd.ntmps53 (by kernel_rfl) rfl rfl (fun _ => rfl) trivial (fun x => .inl ⟨c_i_IsPuzzle_c1.start () x, fun _ => rfl⟩) (fun x hb => by
  obtain ⟨⟨c0_Kind, c0_A, c0_B⟩, _⟩ := x
  exact i_IsPuzzle_c1_e c0_Kind c0_A c0_B)
/-! slices.IndexFunc[[]impl.Clue,impl.Clue] -/
noncomputable def c_slices_IndexFunc_Clue__i_IsPuzzle_c1 : FnCx := { env := env 19 [(53, S_i_IsPuzzle_c1)] [], body := bodyOf Tryd.f63, res := [.tmp 4], ins := [.ro kSClue, .fn 53 []], out := [(kint, true)], T := Int, fin := fun r => r.1.1, inj := fun t => ((t, ()), ((), (), ())), pts := [([.inLoop [1, 0, 1, 0, 0], .inBlock 0, .code [1, 1]], Shape.mk [Bs.row kClue 54 false] [(0, Ss.one (Cs.sl 0)), (1, Ss.fn 53 []), (7, Ss.one (Cs.sc kint)), (8, Ss.one (Cs.sc kint))] [Ss.one (Cs.any), Ss.fn 53 []])], fuel := 400, dr := noDr }
noncomputable def slices_IndexFunc_Clue__i_IsPuzzle_c1_t1 (g1 : List (Int × (Int × Int)) → Int → Int → Option (Int)) (r0 : List (Int × (Int × Int))) (s7 : Int) (s8 : Int) : Option Int :=
  bif decide (s8 < s7) then
    bif decide (0 ≤ s8) then
      bif decide (s8 < (↑(List.length r0) : Int)) then
        bif
            i_IsPuzzle_c1 (Prod.fst (rdk kClue r0 s8))
              (Prod.fst (Prod.snd (rdk kClue r0 s8)))
              (Prod.snd (Prod.snd (rdk kClue r0 s8))) then
          some s8
        else g1 r0 s7 (IntKind.wrap IntKind.i64 (s8 + 1))
      else none
    else none
  else some (-1)
noncomputable def slices_IndexFunc_Clue__i_IsPuzzle_c1_t0 (g1 : List (Int × (Int × Int)) → Int → Int → Option (Int)) (s0 : List (Int × Int × Int)) : Option Int :=
  g1 s0 (↑(List.length s0) : Int) 0
theorem slices_IndexFunc_Clue__i_IsPuzzle_c1_ts : Tails c_slices_IndexFunc_Clue__i_IsPuzzle_c1.pts c_slices_IndexFunc_Clue__i_IsPuzzle_c1.round :=
  ⟨fun s => by
    obtain ⟨⟨r0, _⟩, ⟨_, _, s7, s8, _⟩, ⟨_, _, _⟩⟩ := s
    refine Tail.eq (Y := fun g => slices_IndexFunc_Clue__i_IsPuzzle_c1_t1 (fun r0 s7 s8 => g.1 ((r0, ()), ((), (), s7, s8, ()), ((), (), ()))) r0 s7 s8) ?_ (fun g => by kernel_rfl)
    simp only [slices_IndexFunc_Clue__i_IsPuzzle_c1_t1]; repeat (first | exact Tail.const _ | exact Tail.here _ | exact Tail.there (Tail.here _) | exact Tail.there (Tail.there (Tail.here _)) | exact Tail.there (Tail.there (Tail.there (Tail.here _))) | exact Tail.there (Tail.there (Tail.there (Tail.there (Tail.here _)))) | exact Tail.there (Tail.there (Tail.there (Tail.there (Tail.there (Tail.here _))))) | apply Tail.cond | (apply Tail.bind; intro _)), trivial⟩
theorem slices_IndexFunc_Clue__i_IsPuzzle_c1_hs : ∀ x, Tail c_slices_IndexFunc_Clue__i_IsPuzzle_c1.pts (fun g => c_slices_IndexFunc_Clue__i_IsPuzzle_c1.start g x) := fun x => by
    obtain ⟨s0, _, _⟩ := x
    refine Tail.eq (Y := fun g => slices_IndexFunc_Clue__i_IsPuzzle_c1_t0 (fun r0 s7 s8 => g.1 ((r0, ()), ((), (), s7, s8, ()), ((), (), ()))) s0) ?_ (fun g => by kernel_rfl)
    simp only [slices_IndexFunc_Clue__i_IsPuzzle_c1_t0]; repeat (first | exact Tail.const _ | exact Tail.here _ | exact Tail.there (Tail.here _) | exact Tail.there (Tail.there (Tail.here _)) | exact Tail.there (Tail.there (Tail.there (Tail.here _))) | exact Tail.there (Tail.there (Tail.there (Tail.there (Tail.here _)))) | exact Tail.there (Tail.there (Tail.there (Tail.there (Tail.there (Tail.here _))))) | apply Tail.cond | (apply Tail.bind; intro _))
noncomputable def slices_IndexFunc_Clue__i_IsPuzzle_c1_L1 (r0 : List (Int × (Int × Int))) (s7 : Int) (s8 : Int) : Option Int := c_slices_IndexFunc_Clue__i_IsPuzzle_c1.L.1 ((r0, ()), ((), (), s7, s8, ()), ((), (), ()))
theorem slices_IndexFunc_Clue__i_IsPuzzle_c1_u1 (r0 : List (Int × (Int × Int))) (s7 : Int) (s8 : Int) : slices_IndexFunc_Clue__i_IsPuzzle_c1_L1 r0 s7 s8 = slices_IndexFunc_Clue__i_IsPuzzle_c1_t1 slices_IndexFunc_Clue__i_IsPuzzle_c1_L1 r0 s7 s8 :=
  (congrArg (fun g => g.1 ((r0, ()), ((), (), s7, s8, ()), ((), (), ()))) (FnCx.L_eq slices_IndexFunc_Clue__i_IsPuzzle_c1_ts)).trans (by kernel_rfl)
noncomputable def slices_IndexFunc_Clue__i_IsPuzzle_c1 (s0 : List (Int × Int × Int)) : Option Int := slices_IndexFunc_Clue__i_IsPuzzle_c1_t0 slices_IndexFunc_Clue__i_IsPuzzle_c1_L1 s0
theorem slices_IndexFunc_Clue__i_IsPuzzle_c1_e (s0 : List (Int × Int × Int)) : c_slices_IndexFunc_Clue__i_IsPuzzle_c1.start c_slices_IndexFunc_Clue__i_IsPuzzle_c1.L (s0, (), ()) = slices_IndexFunc_Clue__i_IsPuzzle_c1 s0 := by kernel_rfl
-- NICE tot
noncomputable def slices_IndexFunc_Clue__i_IsPuzzle_c1_n (l : List (Int × Int × Int)) : Int := idxF (fun x => i_IsPuzzle_c1 x.1 x.2.1 x.2.2) l 0
theorem slices_IndexFunc_Clue__i_IsPuzzle_c1_ok (l : List (Int × Int × Int)) (hb : BdI c_slices_IndexFunc_Clue__i_IsPuzzle_c1.ins (l, (), ())) : slices_IndexFunc_Clue__i_IsPuzzle_c1 l = some (slices_IndexFunc_Clue__i_IsPuzzle_c1_n l) :=
  have hm : l.length ≤ maxLen := hb.1.1
  loop_idx (L := fun i => slices_IndexFunc_Clue__i_IsPuzzle_c1_L1 l l.length (i : Int)) (l := l) (p := fun x => i_IsPuzzle_c1 x.1 x.2.1 x.2.2)
    (fun i h => by simp only [slices_IndexFunc_Clue__i_IsPuzzle_c1_u1 l l.length i, slices_IndexFunc_Clue__i_IsPuzzle_c1_t1, rdk_get (k := kClue) h, wrapS h hm]; simp [h]) (by simp [slices_IndexFunc_Clue__i_IsPuzzle_c1_u1 l l.length l.length, slices_IndexFunc_Clue__i_IsPuzzle_c1_t1])
noncomputable def F_slices_IndexFunc_Clue__i_IsPuzzle_c1 : Ins c_slices_IndexFunc_Clue__i_IsPuzzle_c1.ins → Int := fun x => slices_IndexFunc_Clue__i_IsPuzzle_c1_n x.1
noncomputable def S_slices_IndexFunc_Clue__i_IsPuzzle_c1 : FSpec := mkT c_slices_IndexFunc_Clue__i_IsPuzzle_c1.env.pre c_slices_IndexFunc_Clue__i_IsPuzzle_c1.ins c_slices_IndexFunc_Clue__i_IsPuzzle_c1.out c_slices_IndexFunc_Clue__i_IsPuzzle_c1.inj F_slices_IndexFunc_Clue__i_IsPuzzle_c1
theorem h_slices_IndexFunc_Clue__i_IsPuzzle_c1 : Cert Tryd.prog 63 S_slices_IndexFunc_Clue__i_IsPuzzle_c1 := FnCx.certT (c := c_slices_IndexFunc_Clue__i_IsPuzzle_c1) F_slices_IndexFunc_Clue__i_IsPuzzle_c1 (tyOk _ _ _) (spOk ⟨h_i_IsPuzzle_c1, fun _ _ h => h, trivial⟩) (fun _ _ _ _ _ hs => noDr_ok) Tryd.func63 rfl rfl Tryd.ntmps63 (by kernel_rfl) rfl rfl (fun _ => rfl) slices_IndexFunc_Clue__i_IsPuzzle_c1_ts slices_IndexFunc_Clue__i_IsPuzzle_c1_hs (fun x hb => by
  obtain ⟨s0, _, _⟩ := x
  exact (slices_IndexFunc_Clue__i_IsPuzzle_c1_e s0).trans (slices_IndexFunc_Clue__i_IsPuzzle_c1_ok s0 hb))
/-! slices.ContainsFunc[[]impl.Clue,impl.Clue] -/
noncomputable def c_slices_ContainsFunc_Clue__i_IsPuzzle_c1 : FnCx := { env := env 9 [(63, S_slices_IndexFunc_Clue__i_IsPuzzle_c1)] [], body := bodyOf Tryd.f52, res := [.tmp 4], ins := [.ro kSClue, .fn 53 []], out := [(kbool, true)], T := Bool, fin := fun r => r.1.1, inj := fun t => ((t, ()), ((), (), ())), pts := [], fuel := 400, dr := noDr }
noncomputable def slices_ContainsFunc_Clue__i_IsPuzzle_c1 (s0 : List (Int × Int × Int)) : Bool :=
  decide (slices_IndexFunc_Clue__i_IsPuzzle_c1_n s0 ≥ 0)
theorem slices_ContainsFunc_Clue__i_IsPuzzle_c1_e (s0 : List (Int × Int × Int)) : c_slices_ContainsFunc_Clue__i_IsPuzzle_c1.start c_slices_ContainsFunc_Clue__i_IsPuzzle_c1.L (s0, (), ()) = some (slices_ContainsFunc_Clue__i_IsPuzzle_c1 s0) := by kernel_rfl
noncomputable def F_slices_ContainsFunc_Clue__i_IsPuzzle_c1 : Ins c_slices_ContainsFunc_Clue__i_IsPuzzle_c1.ins → Bool := fun x => slices_ContainsFunc_Clue__i_IsPuzzle_c1 x.1
noncomputable def S_slices_ContainsFunc_Clue__i_IsPuzzle_c1 : FSpec := mkT c_slices_ContainsFunc_Clue__i_IsPuzzle_c1.env.pre c_slices_ContainsFunc_Clue__i_IsPuzzle_c1.ins c_slices_ContainsFunc_Clue__i_IsPuzzle_c1.out c_slices_ContainsFunc_Clue__i_IsPuzzle_c1.inj F_slices_ContainsFunc_Clue__i_IsPuzzle_c1
theorem h_slices_ContainsFunc_Clue__i_IsPuzzle_c1 : Cert Tryd.prog 52 S_slices_ContainsFunc_Clue__i_IsPuzzle_c1 := FnCx.certT (c := c_slices_ContainsFunc_Clue__i_IsPuzzle_c1) F_slices_ContainsFunc_Clue__i_IsPuzzle_c1 (tyOk _ _ _) (spOk ⟨h_slices_IndexFunc_Clue__i_IsPuzzle_c1, fun _ _ h => h, trivial⟩) (fun _ _ _ _ _ hs => noDr_ok) Tryd.func52 rfl rfl Tryd.ntmps52 (by kernel_rfl) rfl rfl (fun _ => rfl) trivial (fun x => .inl ⟨c_slices_ContainsFunc_Clue__i_IsPuzzle_c1.start () x, fun _ => rfl⟩) (fun x hb => by
  obtain ⟨s0, _, _⟩ := x
  exact slices_ContainsFunc_Clue__i_IsPuzzle_c1_e s0)
/-! impl.IsPuzzle -/
noncomputable def c_i_IsPuzzle : FnCx := { env := env 13 [(52, S_slices_ContainsFunc_Clue__i_IsPuzzle_c1)] [], body := bodyOf Tryd.f32, res := [.tmp 2], ins := [.ro kPuzzle], out := [(kbool, true)], T := Bool, fin := fun r => r.1.1, inj := fun t => ((t, ()), ((), ())), pts := [], fuel := 400, dr := noDr }
noncomputable def i_IsPuzzle (p0_Clues : List (Int × Int × Int)) : Bool :=
  bif decide ((↑(List.length p0_Clues) : Int) ≤ 6) then !slices_ContainsFunc_Clue__i_IsPuzzle_c1 p0_Clues else false
theorem i_IsPuzzle_e (p0_Clues : List (Int × Int × Int)) : c_i_IsPuzzle.start c_i_IsPuzzle.L (p0_Clues, ()) = some (i_IsPuzzle p0_Clues) := by
  refine Eq.trans (b := (bif decide ((↑(List.length p0_Clues) : Int) ≤ 6) then some !slices_ContainsFunc_Clue__i_IsPuzzle_c1 p0_Clues else some false : Option Bool)) (by kernel_rfl) ?_
  unfold i_IsPuzzle
  repeat (first | rfl | apply condS)
theorem IsClue_eq (a b c : Int) : i_IsClue a b c = s_pzClue a b c := by
  unfold i_IsClue s_pzClue i_within s_l1In
  have e : decide (c ≤ 1) = decide (c < 2) := by rw [decide_eq_decide]; omega
  rw [e]
  simp only [Bool.cond_eq_ite, ge_iff_le]
  grind
theorem IsPuzzle_eq (l : List (Int × Int × Int)) : i_IsPuzzle l = s_pzGood_n l := by
  unfold i_IsPuzzle s_pzGood_n slices_ContainsFunc_Clue__i_IsPuzzle_c1 slices_IndexFunc_Clue__i_IsPuzzle_c1_n
  rw [idxF_any]
  by_cases h : (l.length : Int) ≤ 6
  · have h' : ¬ ((l.length : Int) > 6) := by omega
    simp only [h, h', decide_true, decide_false, cond_true, cond_false, i_IsPuzzle_c1, IsClue_eq]
    cases l.any _ <;> rfl
  · have h' : ((l.length : Int) > 6) := by omega
    simp [h, h']
noncomputable def F_i_IsPuzzle : Ins c_i_IsPuzzle.ins → Bool := fun x => i_IsPuzzle x.1
noncomputable def S_i_IsPuzzle : FSpec := mkT c_i_IsPuzzle.env.pre c_i_IsPuzzle.ins c_i_IsPuzzle.out c_i_IsPuzzle.inj F_i_IsPuzzle
theorem h_i_IsPuzzle : Cert Tryd.prog 32 S_i_IsPuzzle := FnCx.certT (c := c_i_IsPuzzle) F_i_IsPuzzle (tyOk _ _ _) (spOk ⟨h_slices_ContainsFunc_Clue__i_IsPuzzle_c1, fun _ _ h => h, trivial⟩) (fun _ _ _ _ _ hs => noDr_ok) Tryd.func32 rfl rfl Tryd.ntmps32 (by kernel_rfl) rfl rfl (fun _ => rfl) trivial (fun x => .inl ⟨c_i_IsPuzzle.start () x, fun _ => rfl⟩) (fun x hb => by
  obtain ⟨p0_Clues, _⟩ := x
  exact i_IsPuzzle_e p0_Clues)
/-! impl.ParsePuzzle -/
noncomputable def c_i_ParsePuzzle : FnCx := { env := env 54 [(39, S_strings_Split), (37, S_i_nums), (32, S_i_IsPuzzle)] [], body := bodyOf Tryd.f21, res := [.cell 2 35, .tmp 3], ins := [.ro kstring], out := [(kPuzzle, true), (kbool, true)], T := List (Int × Int × Int) × Bool, fin := fun r => (r.1.1, r.1.2.1), inj := fun t => ((t.1, t.2, ()), ((), ())), pts := [([.inLoop [1, 1, 1, 0, 1, 0, 0], .inBlock 0, .code [1, 1, 1, 1]], Shape.mk [Bs.box 35 [Cs.sl 3], Bs.box 35 [Cs.sl 4], Bs.row kstring 9 true, Bs.row kClue 54 true, Bs.row kClue 54 true] [(2, Ss.one (Cs.ptr 0 0)), (4, Ss.one (Cs.ptr 1 0)), (14, Ss.one (Cs.sl 2)), (15, Ss.one (Cs.sc kint)), (16, Ss.one (Cs.sc kint))] [Ss.one (Cs.any)])], fuel := 400, dr := evDr (env 54 [(39, S_strings_Split), (37, S_i_nums), (32, S_i_IsPuzzle)] []) }
noncomputable def i_ParsePuzzle_t1 (g1 : List (ByteArray) → List (Int × (Int × Int)) → List (Int × (Int × Int)) → Int → Int → Option (List (Int × Int × Int) × Bool)) (r2 : List (ByteArray)) (r3 : List (Int × (Int × Int))) (r4 : List (Int × (Int × Int))) (s15 : Int) (s16 : Int) : Option (List (Int × Int × Int) × Bool) :=
  bif decide (s16 < s15) then
    bif decide (0 ≤ s16) then
      bif decide (s16 < (↑(List.length r2) : Int)) then
        Option.bind (i_nums (rdk kstring r2 s16) { data := #[46] }) fun r =>
          bif !Prod.snd r then some ([], false)
          else
            bif (↑(List.length (Prod.fst r)) : Int) != 3 then some ([], false)
            else
              bif decide (0 < (↑(List.length (Prod.fst r)) : Int)) then
                bif decide (1 < (↑(List.length (Prod.fst r)) : Int)) then
                  bif decide (2 < (↑(List.length (Prod.fst r)) : Int)) then
                    bif Nat.ble (List.length r4 + 1) 4294967296 then
                      g1 r2 r3
                        (r4 ++ [(rdk kint (Prod.fst r) 0, rdk kint (Prod.fst r) 1, rdk kint (Prod.fst r) 2)]) s15
                        (IntKind.wrap IntKind.i64 (s16 + 1))
                    else none
                  else none
                else none
              else none
      else none
    else none
  else bif !i_IsPuzzle r4 then some ([], false) else some (r4, true)
noncomputable def i_ParsePuzzle_t0 (g1 : List (ByteArray) → List (Int × (Int × Int)) → List (Int × (Int × Int)) → Int → Int → Option (List (Int × Int × Int) × Bool)) (t0 : ByteArray) : Option (List (Int × Int × Int) × Bool) :=
  bif ByteArray.toList t0 == ByteArray.toList { data := #[] } then some ([], true)
  else Option.bind (strings_Split t0 { data := #[44] }) fun r => g1 r [] [] (↑(List.length r) : Int) 0
theorem i_ParsePuzzle_ts : Tails c_i_ParsePuzzle.pts c_i_ParsePuzzle.round :=
  ⟨fun s => by
    obtain ⟨⟨⟨_, _⟩, ⟨_, _⟩, r2, r3, r4, _⟩, ⟨_, _, _, s15, s16, _⟩, ⟨_, _⟩⟩ := s
    refine Tail.eq (Y := fun g => i_ParsePuzzle_t1 (fun r2 r3 r4 s15 s16 => g.1 ((((), ()), ((), ()), r2, r3, r4, ()), ((), (), (), s15, s16, ()), ((), ()))) r2 r3 r4 s15 s16) ?_ (fun g => by kernel_rfl)
    simp only [i_ParsePuzzle_t1]; repeat (first | apply Tail.cond | (apply Tail.bind; intro _) | exact Tail.here _ | exact Tail.there (Tail.here _) | exact Tail.there (Tail.there (Tail.here _)) | exact Tail.there (Tail.there (Tail.there (Tail.here _))) | exact Tail.there (Tail.there (Tail.there (Tail.there (Tail.here _)))) | exact Tail.there (Tail.there (Tail.there (Tail.there (Tail.there (Tail.here _))))) | exact Tail.const _), trivial⟩
theorem i_ParsePuzzle_hs : ∀ x, Tail c_i_ParsePuzzle.pts (fun g => c_i_ParsePuzzle.start g x) := fun x => by
    obtain ⟨t0, _⟩ := x
    refine Tail.eq (Y := fun g => i_ParsePuzzle_t0 (fun r2 r3 r4 s15 s16 => g.1 ((((), ()), ((), ()), r2, r3, r4, ()), ((), (), (), s15, s16, ()), ((), ()))) t0) ?_ (fun g => by kernel_rfl)
    simp only [i_ParsePuzzle_t0]; repeat (first | apply Tail.cond | (apply Tail.bind; intro _) | exact Tail.here _ | exact Tail.there (Tail.here _) | exact Tail.there (Tail.there (Tail.here _)) | exact Tail.there (Tail.there (Tail.there (Tail.here _))) | exact Tail.there (Tail.there (Tail.there (Tail.there (Tail.here _)))) | exact Tail.there (Tail.there (Tail.there (Tail.there (Tail.there (Tail.here _))))) | exact Tail.const _)
noncomputable def i_ParsePuzzle_L1 (r2 : List (ByteArray)) (r3 : List (Int × (Int × Int))) (r4 : List (Int × (Int × Int))) (s15 : Int) (s16 : Int) : Option (List (Int × Int × Int) × Bool) := c_i_ParsePuzzle.L.1 ((((), ()), ((), ()), r2, r3, r4, ()), ((), (), (), s15, s16, ()), ((), ()))
theorem i_ParsePuzzle_u1 (r2 : List (ByteArray)) (r3 : List (Int × (Int × Int))) (r4 : List (Int × (Int × Int))) (s15 : Int) (s16 : Int) : i_ParsePuzzle_L1 r2 r3 r4 s15 s16 = i_ParsePuzzle_t1 i_ParsePuzzle_L1 r2 r3 r4 s15 s16 :=
  (congrArg (fun g => g.1 ((((), ()), ((), ()), r2, r3, r4, ()), ((), (), (), s15, s16, ()), ((), ()))) (FnCx.L_eq i_ParsePuzzle_ts)).trans (by kernel_rfl)
noncomputable def i_ParsePuzzle (t0 : ByteArray) : Option (List (Int × Int × Int) × Bool) := i_ParsePuzzle_t0 i_ParsePuzzle_L1 t0
theorem i_ParsePuzzle_e (t0 : ByteArray) : c_i_ParsePuzzle.start c_i_ParsePuzzle.L (t0, ()) = i_ParsePuzzle t0 := by kernel_rfl
noncomputable def F_i_ParsePuzzle : Ins c_i_ParsePuzzle.ins → Option (List (Int × Int × Int) × Bool) := fun x => i_ParsePuzzle x.1
noncomputable def S_i_ParsePuzzle : FSpec := mkF c_i_ParsePuzzle.env.pre c_i_ParsePuzzle.ins c_i_ParsePuzzle.out c_i_ParsePuzzle.inj F_i_ParsePuzzle
theorem h_i_ParsePuzzle : Cert Tryd.prog 21 S_i_ParsePuzzle := FnCx.certF (c := c_i_ParsePuzzle) F_i_ParsePuzzle (tyOk _ _ _) (spOk ⟨h_strings_Split, fun _ _ h => h, ⟨h_i_nums, fun _ _ h => h, ⟨h_i_IsPuzzle, fun _ _ h => h, trivial⟩⟩⟩) (fun _ _ _ _ _ hs => evDr_ok (tyOk _ _ _) hs follows) Tryd.func21 rfl rfl Tryd.ntmps21 (by kernel_rfl) rfl rfl (fun _ => rfl) i_ParsePuzzle_ts i_ParsePuzzle_hs (fun x t hb ht => by
  obtain ⟨t0, _⟩ := x
  exact (i_ParsePuzzle_e t0).trans ht)
/-! laws.eqClue -/
noncomputable def c_w_eqClue : FnCx := { env := env 20 [] [], body := bodyOf Tryd.f58, res := [.tmp 4], ins := [.ro kClue, .ro kClue], out := [(kbool, true)], T := Bool, fin := fun r => r.1.1, inj := fun t => ((t, ()), ((), (), ())), pts := [], fuel := 400, dr := noDr }
noncomputable def w_eqClue (a0_Kind : Int) (a0_A : Int) (a0_B : Int) (b1_Kind : Int) (b1_A : Int) (b1_B : Int) : Bool :=
  bif a0_Kind != b1_Kind then false else bif a0_A != b1_A then false else bif a0_B != b1_B then false else true
theorem w_eqClue_e (a0_Kind : Int) (a0_A : Int) (a0_B : Int) (b1_Kind : Int) (b1_A : Int) (b1_B : Int) : c_w_eqClue.start c_w_eqClue.L ((a0_Kind, a0_A, a0_B), (b1_Kind, b1_A, b1_B), ()) = some (w_eqClue a0_Kind a0_A a0_B b1_Kind b1_A b1_B) := by
  refine Eq.trans (b := (bif a0_Kind != b1_Kind then some false else bif a0_A != b1_A then some false else bif a0_B != b1_B then some false else some true : Option Bool)) (by kernel_rfl) ?_
  unfold w_eqClue
  repeat (first | rfl | apply condS)
noncomputable def F_w_eqClue : Ins c_w_eqClue.ins → Bool := fun x => w_eqClue x.1.1 x.1.2.1 x.1.2.2 x.2.1.1 x.2.1.2.1 x.2.1.2.2
noncomputable def S_w_eqClue : FSpec := mkT c_w_eqClue.env.pre c_w_eqClue.ins c_w_eqClue.out c_w_eqClue.inj F_w_eqClue
theorem h_w_eqClue : Cert Tryd.prog 58 S_w_eqClue := FnCx.certT (c := c_w_eqClue) F_w_eqClue (tyOk _ _ _) (spOk trivial) (fun _ _ _ _ _ hs => noDr_ok) Tryd.func58 rfl rfl Tryd.ntmps58 (by kernel_rfl) rfl rfl (fun _ => rfl) trivial (fun x => .inl ⟨c_w_eqClue.start () x, fun _ => rfl⟩) (fun x hb => by
  obtain ⟨⟨a0_Kind, a0_A, a0_B⟩, ⟨b1_Kind, b1_A, b1_B⟩, _⟩ := x
  exact w_eqClue_e a0_Kind a0_A a0_B b1_Kind b1_A b1_B)
/-! laws.eqClueS -/
noncomputable def c_w_eqClueS : FnCx := { env := env 27 [(58, S_w_eqClue)] [], body := bodyOf Tryd.f34, res := [.tmp 4], ins := [.ro kSClue, .ro kSClue], out := [(kbool, true)], T := Bool, fin := fun r => r.1.1, inj := fun t => ((t, ()), ((), (), ())), pts := [([.inLoop [1, 1, 0, 1, 0, 0], .inBlock 0, .code [1, 1, 1]], Shape.mk [Bs.row kClue 54 false, Bs.row kClue 54 false] [(0, Ss.one (Cs.sl 0)), (1, Ss.one (Cs.sl 1)), (5, Ss.one (Cs.sc kint))] [Ss.one (Cs.any), Ss.one (Cs.any)])], fuel := 400, dr := evDr (env 27 [(58, S_w_eqClue)] []) }
noncomputable def w_eqClueS_t1 (g1 : List (Int × (Int × Int)) → List (Int × (Int × Int)) → Int → Option (Bool)) (r0 : List (Int × (Int × Int))) (r1 : List (Int × (Int × Int))) (i5 : Int) : Option Bool :=
  bif decide (i5 < (↑(List.length r0) : Int)) then
    bif decide (0 ≤ i5) then
      bif decide (i5 < (↑(List.length r0) : Int)) then
        bif decide (0 ≤ i5) then
          bif decide (i5 < (↑(List.length r1) : Int)) then
            bif
                !w_eqClue (Prod.fst (rdk kClue r0 i5))
                    (Prod.fst (Prod.snd (rdk kClue r0 i5)))
                    (Prod.snd (Prod.snd (rdk kClue r0 i5)))
                    (Prod.fst (rdk kClue r1 i5))
                    (Prod.fst (Prod.snd (rdk kClue r1 i5)))
                    (Prod.snd (Prod.snd (rdk kClue r1 i5))) then
              some false
            else g1 r0 r1 (IntKind.wrap IntKind.i64 (i5 + 1))
          else none
        else none
      else none
    else none
  else some true
noncomputable def w_eqClueS_t0 (g1 : List (Int × (Int × Int)) → List (Int × (Int × Int)) → Int → Option (Bool)) (a0 : List (Int × Int × Int)) (b1 : List (Int × Int × Int)) : Option Bool :=
  bif (↑(List.length a0) : Int) != (↑(List.length b1) : Int) then some false else g1 a0 b1 0
theorem w_eqClueS_ts : Tails c_w_eqClueS.pts c_w_eqClueS.round :=
  ⟨fun s => by
    obtain ⟨⟨r0, r1, _⟩, ⟨_, _, i5, _⟩, ⟨_, _, _⟩⟩ := s
    refine Tail.eq (Y := fun g => w_eqClueS_t1 (fun r0 r1 i5 => g.1 ((r0, r1, ()), ((), (), i5, ()), ((), (), ()))) r0 r1 i5) ?_ (fun g => by kernel_rfl)
    simp only [w_eqClueS_t1]; repeat (first | exact Tail.const _ | exact Tail.here _ | exact Tail.there (Tail.here _) | exact Tail.there (Tail.there (Tail.here _)) | exact Tail.there (Tail.there (Tail.there (Tail.here _))) | exact Tail.there (Tail.there (Tail.there (Tail.there (Tail.here _)))) | exact Tail.there (Tail.there (Tail.there (Tail.there (Tail.there (Tail.here _))))) | apply Tail.cond | (apply Tail.bind; intro _)), trivial⟩
theorem w_eqClueS_hs : ∀ x, Tail c_w_eqClueS.pts (fun g => c_w_eqClueS.start g x) := fun x => by
    obtain ⟨a0, b1, _⟩ := x
    refine Tail.eq (Y := fun g => w_eqClueS_t0 (fun r0 r1 i5 => g.1 ((r0, r1, ()), ((), (), i5, ()), ((), (), ()))) a0 b1) ?_ (fun g => by kernel_rfl)
    simp only [w_eqClueS_t0]; repeat (first | exact Tail.const _ | exact Tail.here _ | exact Tail.there (Tail.here _) | exact Tail.there (Tail.there (Tail.here _)) | exact Tail.there (Tail.there (Tail.there (Tail.here _))) | exact Tail.there (Tail.there (Tail.there (Tail.there (Tail.here _)))) | exact Tail.there (Tail.there (Tail.there (Tail.there (Tail.there (Tail.here _))))) | apply Tail.cond | (apply Tail.bind; intro _))
noncomputable def w_eqClueS_L1 (r0 : List (Int × (Int × Int))) (r1 : List (Int × (Int × Int))) (i5 : Int) : Option Bool := c_w_eqClueS.L.1 ((r0, r1, ()), ((), (), i5, ()), ((), (), ()))
theorem w_eqClueS_u1 (r0 : List (Int × (Int × Int))) (r1 : List (Int × (Int × Int))) (i5 : Int) : w_eqClueS_L1 r0 r1 i5 = w_eqClueS_t1 w_eqClueS_L1 r0 r1 i5 :=
  (congrArg (fun g => g.1 ((r0, r1, ()), ((), (), i5, ()), ((), (), ()))) (FnCx.L_eq w_eqClueS_ts)).trans (by kernel_rfl)
noncomputable def w_eqClueS (a0 : List (Int × Int × Int)) (b1 : List (Int × Int × Int)) : Option Bool := w_eqClueS_t0 w_eqClueS_L1 a0 b1
theorem w_eqClueS_e (a0 : List (Int × Int × Int)) (b1 : List (Int × Int × Int)) : c_w_eqClueS.start c_w_eqClueS.L (a0, b1, ()) = w_eqClueS a0 b1 := by kernel_rfl
-- NICE tot
noncomputable def w_eqClueS_n (a b : List (Int × Int × Int)) : Bool := decide (a = b)
theorem w_eqClue_iff (a b : Int × Int × Int) : w_eqClue a.1 a.2.1 a.2.2 b.1 b.2.1 b.2.2 = decide (a = b) := by
  obtain ⟨a1, a2, a3⟩ := a
  obtain ⟨b1, b2, b3⟩ := b
  unfold w_eqClue
  by_cases h1 : a1 = b1 <;> by_cases h2 : a2 = b2 <;> by_cases h3 : a3 = b3 <;> simp [h1, h2, h3]
theorem w_eqClueS_ok (a b : List (Int × Int × Int)) (hb : BdI c_w_eqClueS.ins (a, b, ())) : w_eqClueS a b = some (w_eqClueS_n a b) := by
  unfold w_eqClueS w_eqClueS_t0 w_eqClueS_n
  by_cases hl : a.length = b.length
  · have e := loop_eq (L := fun i => w_eqClueS_L1 a b (i : Int)) hl (fun i h h' => by
        simp only [w_eqClueS_u1 a b i, w_eqClueS_t1, rdk_get (k := kClue) h, rdk_get (k := kClue) h', wrapS h hb.1.1, w_eqClue_iff]
        by_cases hx : a[i] = b[i] <;> simp [h, h', hx]) (by simp [w_eqClueS_u1 a b a.length, w_eqClueS_t1])
    simpa [hl] using e
  · have hab : a ≠ b := fun e => hl (by rw [e])
    have : ((a.length : Int) != (b.length : Int)) = true := by simp; omega
    rw [this]
    simp [hab]
noncomputable def F_w_eqClueS : Ins c_w_eqClueS.ins → Bool := fun x => w_eqClueS_n x.1 x.2.1
noncomputable def S_w_eqClueS : FSpec := mkT c_w_eqClueS.env.pre c_w_eqClueS.ins c_w_eqClueS.out c_w_eqClueS.inj F_w_eqClueS
theorem h_w_eqClueS : Cert Tryd.prog 34 S_w_eqClueS := FnCx.certT (c := c_w_eqClueS) F_w_eqClueS (tyOk _ _ _) (spOk ⟨h_w_eqClue, fun _ _ h => h, trivial⟩) (fun _ _ _ _ _ hs => evDr_ok (tyOk _ _ _) hs follows) Tryd.func34 rfl rfl Tryd.ntmps34 (by kernel_rfl) rfl rfl (fun _ => rfl) w_eqClueS_ts w_eqClueS_hs (fun x hb => by
  obtain ⟨a0, b1, _⟩ := x
  exact (w_eqClueS_e a0 b1).trans (w_eqClueS_ok a0 b1 hb))
/-! laws.szClueS -/
noncomputable def c_w_szClueS : FnCx := { env := env 12 [] [], body := bodyOf Tryd.f28, res := [.tmp 4], ins := [.ro kSwClue, .ro kint], out := [(kint, true)], T := Int, fin := fun r => r.1.1, inj := fun t => ((t, ()), ((), (), ())), pts := [], fuel := 400, dr := noDr }
noncomputable def w_szClueS (a0 : List (Int × Int × Int)) (left1 : Int) : Int :=
  bif decide (IntKind.wrap IntKind.i64 (left1 - (↑(List.length a0) : Int)) < 0) then -1 else IntKind.wrap IntKind.i64 (left1 - (↑(List.length a0) : Int))
theorem w_szClueS_e (a0 : List (Int × Int × Int)) (left1 : Int) : c_w_szClueS.start c_w_szClueS.L (a0, left1, ()) = some (w_szClueS a0 left1) := by
  refine Eq.trans (b := (bif decide (IntKind.wrap IntKind.i64 (left1 - (↑(List.length a0) : Int)) < 0) then some (-1) else some (IntKind.wrap IntKind.i64 (left1 - (↑(List.length a0) : Int))) : Option Int)) (by kernel_rfl) ?_
  unfold w_szClueS
  repeat (first | rfl | apply condS)
noncomputable def F_w_szClueS : Ins c_w_szClueS.ins → Int := fun x => w_szClueS x.1 x.2.1
noncomputable def S_w_szClueS : FSpec := mkT c_w_szClueS.env.pre c_w_szClueS.ins c_w_szClueS.out c_w_szClueS.inj F_w_szClueS
theorem h_w_szClueS : Cert Tryd.prog 28 S_w_szClueS := FnCx.certT (c := c_w_szClueS) F_w_szClueS (tyOk _ _ _) (spOk trivial) (fun _ _ _ _ _ hs => noDr_ok) Tryd.func28 rfl rfl Tryd.ntmps28 (by kernel_rfl) rfl rfl (fun _ => rfl) trivial (fun x => .inl ⟨c_w_szClueS.start () x, fun _ => rfl⟩) (fun x hb => by
  obtain ⟨a0, left1, _⟩ := x
  exact w_szClueS_e a0 left1)
/-! laws.szPuzzle -/
noncomputable def c_w_szPuzzle : FnCx := { env := env 12 [(28, S_w_szClueS)] [], body := bodyOf Tryd.f11, res := [.tmp 4], ins := [.ro kwPuzzle, .ro kint], out := [(kint, true)], T := Int, fin := fun r => r.1.1, inj := fun t => ((t, ()), ((), (), ())), pts := [], fuel := 400, dr := noDr }
noncomputable def w_szPuzzle (a0_Clues : List (Int × Int × Int)) (left1 : Int) : Int :=
  bif decide (w_szClueS a0_Clues left1 < 0) then -1 else w_szClueS a0_Clues left1
theorem w_szPuzzle_e (a0_Clues : List (Int × Int × Int)) (left1 : Int) : c_w_szPuzzle.start c_w_szPuzzle.L (a0_Clues, left1, ()) = some (w_szPuzzle a0_Clues left1) := by
  refine Eq.trans (b := (bif decide (w_szClueS a0_Clues left1 < 0) then some (-1) else some (w_szClueS a0_Clues left1) : Option Int)) (by kernel_rfl) ?_
  unfold w_szPuzzle
  repeat (first | rfl | apply condS)
noncomputable def F_w_szPuzzle : Ins c_w_szPuzzle.ins → Int := fun x => w_szPuzzle x.1 x.2.1
noncomputable def S_w_szPuzzle : FSpec := mkT c_w_szPuzzle.env.pre c_w_szPuzzle.ins c_w_szPuzzle.out c_w_szPuzzle.inj F_w_szPuzzle
theorem h_w_szPuzzle : Cert Tryd.prog 11 S_w_szPuzzle := FnCx.certT (c := c_w_szPuzzle) F_w_szPuzzle (tyOk _ _ _) (spOk ⟨h_w_szClueS, fun _ _ h => h, trivial⟩) (fun _ _ _ _ _ hs => noDr_ok) Tryd.func11 rfl rfl Tryd.ntmps11 (by kernel_rfl) rfl rfl (fun _ => rfl) trivial (fun x => .inl ⟨c_w_szPuzzle.start () x, fun _ => rfl⟩) (fun x hb => by
  obtain ⟨a0_Clues, left1, _⟩ := x
  exact w_szPuzzle_e a0_Clues left1)
/-! laws.toClue -/
noncomputable def c_w_toClue : FnCx := { env := env 14 [] [], body := bodyOf Tryd.f51, res := [.cell 2 54], ins := [.ro kwClue], out := [(kClue, true)], T := (Int × Int × Int), fin := fun r => r.1.1, inj := fun t => ((t, ()), ((), ())), pts := [], fuel := 400, dr := noDr }
noncomputable def w_toClue (a0_Kind : Int) (a0_A : Int) (a0_B : Int) : (Int × Int × Int) :=
  (a0_Kind, a0_A, a0_B)
theorem w_toClue_e (a0_Kind : Int) (a0_A : Int) (a0_B : Int) : c_w_toClue.start c_w_toClue.L ((a0_Kind, a0_A, a0_B), ()) = some (w_toClue a0_Kind a0_A a0_B) := by kernel_rfl
noncomputable def F_w_toClue : Ins c_w_toClue.ins → (Int × Int × Int) := fun x => w_toClue x.1.1 x.1.2.1 x.1.2.2
noncomputable def S_w_toClue : FSpec := mkT c_w_toClue.env.pre c_w_toClue.ins c_w_toClue.out c_w_toClue.inj F_w_toClue
theorem h_w_toClue : Cert Tryd.prog 51 S_w_toClue := FnCx.certT (c := c_w_toClue) F_w_toClue (tyOk _ _ _) (spOk trivial) (fun _ _ _ _ _ hs => noDr_ok) Tryd.func51 rfl rfl Tryd.ntmps51 (by kernel_rfl) rfl rfl (fun _ => rfl) trivial (fun x => .inl ⟨c_w_toClue.start () x, fun _ => rfl⟩) (fun x hb => by
  obtain ⟨⟨a0_Kind, a0_A, a0_B⟩, _⟩ := x
  exact w_toClue_e a0_Kind a0_A a0_B)
/-! laws.toClueS -/
noncomputable def c_w_toClueS : FnCx := { env := env 23 [(51, S_w_toClue)] [], body := bodyOf Tryd.f31, res := [.tmp 2], ins := [.ro kSwClue], out := [(kSClue, true)], T := List (Int × Int × Int), fin := fun r => r.1.1, inj := fun t => ((t, ()), ((), ())), pts := [([.inLoop [1, 1, 0, 1, 0, 0], .inBlock 0, .code [1, 1, 1]], Shape.mk [Bs.row kClue 69 false, Bs.row kClue 54 true] [(0, Ss.one (Cs.sl 0)), (3, Ss.one (Cs.sl 1)), (4, Ss.one (Cs.sc kint))] [Ss.one (Cs.any)])], fuel := 400, dr := noDr }
noncomputable def w_toClueS_t1 (g1 : List (Int × (Int × Int)) → List (Int × (Int × Int)) → Int → Option (List (Int × Int × Int))) (r0 : List (Int × (Int × Int))) (r1 : List (Int × (Int × Int))) (i4 : Int) : Option (List (Int × Int × Int)) :=
  bif decide (i4 < (↑(List.length r0) : Int)) then
    bif decide (0 ≤ i4) then
      bif decide (i4 < (↑(List.length r0) : Int)) then
        bif decide (0 ≤ i4) then
          bif decide (i4 < (↑(List.length r1) : Int)) then
            g1 r0
              (List.set r1 (Int.toNat i4)
                (Prod.fst (rdk kClue r0 i4),
                  Prod.fst (Prod.snd (rdk kClue r0 i4)),
                  Prod.snd (Prod.snd (rdk kClue r0 i4))))
              (IntKind.wrap IntKind.i64 (i4 + 1))
          else none
        else none
      else none
    else none
  else some r1
noncomputable def w_toClueS_t0 (g1 : List (Int × (Int × Int)) → List (Int × (Int × Int)) → Int → Option (List (Int × Int × Int))) (a0 : List (Int × Int × Int)) : Option (List (Int × Int × Int)) :=
  bif (↑(List.length a0) : Int) == (↑(List.length a0) : Int) then
    bif decide ((↑(List.length a0) : Int) ≤ (↑4294967296 : Int)) then g1 a0 (List.replicate (Int.toNat (↑(List.length a0) : Int)) (Kd.zero kClue)) 0 else none
  else none
theorem w_toClueS_ts : Tails c_w_toClueS.pts c_w_toClueS.round :=
  ⟨fun s => by
    obtain ⟨⟨r0, r1, _⟩, ⟨_, _, i4, _⟩, ⟨_, _⟩⟩ := s
    refine Tail.eq (Y := fun g => w_toClueS_t1 (fun r0 r1 i4 => g.1 ((r0, r1, ()), ((), (), i4, ()), ((), ()))) r0 r1 i4) ?_ (fun g => by kernel_rfl)
    simp only [w_toClueS_t1]; repeat (first | exact Tail.const _ | exact Tail.here _ | exact Tail.there (Tail.here _) | exact Tail.there (Tail.there (Tail.here _)) | exact Tail.there (Tail.there (Tail.there (Tail.here _))) | exact Tail.there (Tail.there (Tail.there (Tail.there (Tail.here _)))) | exact Tail.there (Tail.there (Tail.there (Tail.there (Tail.there (Tail.here _))))) | apply Tail.cond | (apply Tail.bind; intro _)), trivial⟩
theorem w_toClueS_hs : ∀ x, Tail c_w_toClueS.pts (fun g => c_w_toClueS.start g x) := fun x => by
    obtain ⟨a0, _⟩ := x
    refine Tail.eq (Y := fun g => w_toClueS_t0 (fun r0 r1 i4 => g.1 ((r0, r1, ()), ((), (), i4, ()), ((), ()))) a0) ?_ (fun g => by kernel_rfl)
    simp only [w_toClueS_t0]; repeat (first | exact Tail.const _ | exact Tail.here _ | exact Tail.there (Tail.here _) | exact Tail.there (Tail.there (Tail.here _)) | exact Tail.there (Tail.there (Tail.there (Tail.here _))) | exact Tail.there (Tail.there (Tail.there (Tail.there (Tail.here _)))) | exact Tail.there (Tail.there (Tail.there (Tail.there (Tail.there (Tail.here _))))) | apply Tail.cond | (apply Tail.bind; intro _))
noncomputable def w_toClueS_L1 (r0 : List (Int × (Int × Int))) (r1 : List (Int × (Int × Int))) (i4 : Int) : Option (List (Int × Int × Int)) := c_w_toClueS.L.1 ((r0, r1, ()), ((), (), i4, ()), ((), ()))
theorem w_toClueS_u1 (r0 : List (Int × (Int × Int))) (r1 : List (Int × (Int × Int))) (i4 : Int) : w_toClueS_L1 r0 r1 i4 = w_toClueS_t1 w_toClueS_L1 r0 r1 i4 :=
  (congrArg (fun g => g.1 ((r0, r1, ()), ((), (), i4, ()), ((), ()))) (FnCx.L_eq w_toClueS_ts)).trans (by kernel_rfl)
noncomputable def w_toClueS (a0 : List (Int × Int × Int)) : Option (List (Int × Int × Int)) := w_toClueS_t0 w_toClueS_L1 a0
theorem w_toClueS_e (a0 : List (Int × Int × Int)) : c_w_toClueS.start c_w_toClueS.L (a0, ()) = w_toClueS a0 := by kernel_rfl
-- NICE opt
noncomputable def w_toClueS_n (a0 : List (Int × Int × Int)) : Option (List (Int × Int × Int)) := bif decide (a0.length ≤ 4294967296) then some a0 else none
theorem w_toClueS_ok (a0 : List (Int × Int × Int)) (hb : BdI c_w_toClueS.ins (a0, ())) (t : List (Int × Int × Int)) (ht : w_toClueS_n a0 = some t) : w_toClueS a0 = some t := by
  unfold w_toClueS_n at ht
  cases h : decide (a0.length ≤ 4294967296)
  · rw [h] at ht; cases ht
  · rw [h] at ht; cases ht
    have h := of_decide_eq_true h
    have e := loop_set (L := fun i r => w_toClueS_L1 a0 r (i : Int)) (l := a0) (f := id) (e := id)
      (fun i h r hr => by
        simp only [w_toClueS_u1 a0 r i, w_toClueS_t1, rdk_get (k := kClue) h, wrapS h hb.1.1, Int.toNat_natCast]
        simp [h, hr])
      (fun r => by simp [w_toClueS_u1 a0 r a0.length, w_toClueS_t1]) (List.replicate a0.length (Kd.zero kClue)) (by simp)
    have h' : ((a0.length : Int) ≤ 4294967296) := by omega
    simp [w_toClueS, w_toClueS_t0, h']
    simpa using e
noncomputable def F_w_toClueS : Ins c_w_toClueS.ins → Option (List (Int × Int × Int)) := fun x => w_toClueS_n x.1
noncomputable def S_w_toClueS : FSpec := mkF c_w_toClueS.env.pre c_w_toClueS.ins c_w_toClueS.out c_w_toClueS.inj F_w_toClueS
theorem h_w_toClueS : Cert Tryd.prog 31 S_w_toClueS := FnCx.certF (c := c_w_toClueS) F_w_toClueS (tyOk _ _ _) (spOk ⟨h_w_toClue, fun _ _ h => h, trivial⟩) (fun _ _ _ _ _ hs => noDr_ok) Tryd.func31 rfl rfl Tryd.ntmps31 (by kernel_rfl) rfl rfl (fun _ => rfl) w_toClueS_ts w_toClueS_hs (fun x t hb ht => by
  obtain ⟨a0, _⟩ := x
  exact (w_toClueS_e a0).trans (w_toClueS_ok a0 hb t ht))
/-! laws.toPuzzle -/
noncomputable def c_w_toPuzzle : FnCx := { env := env 9 [(31, S_w_toClueS)] [], body := bodyOf Tryd.f13, res := [.cell 2 35], ins := [.ro kwPuzzle], out := [(kPuzzle, true)], T := List (Int × Int × Int), fin := fun r => r.1.1, inj := fun t => ((t, ()), ((), ())), pts := [], fuel := 400, dr := noDr }
noncomputable def w_toPuzzle (a0_Clues : List (Int × Int × Int)) : Option (List (Int × Int × Int)) :=
  Option.bind (w_toClueS_n a0_Clues) fun r => some r
theorem w_toPuzzle_e (a0_Clues : List (Int × Int × Int)) : c_w_toPuzzle.start c_w_toPuzzle.L (a0_Clues, ()) = w_toPuzzle a0_Clues := by kernel_rfl
noncomputable def F_w_toPuzzle : Ins c_w_toPuzzle.ins → Option (List (Int × Int × Int)) := fun x => w_toPuzzle x.1
noncomputable def S_w_toPuzzle : FSpec := mkF c_w_toPuzzle.env.pre c_w_toPuzzle.ins c_w_toPuzzle.out c_w_toPuzzle.inj F_w_toPuzzle
theorem h_w_toPuzzle : Cert Tryd.prog 13 S_w_toPuzzle := FnCx.certF (c := c_w_toPuzzle) F_w_toPuzzle (tyOk _ _ _) (spOk ⟨h_w_toClueS, fun _ _ h => h, trivial⟩) (fun _ _ _ _ _ hs => noDr_ok) Tryd.func13 rfl rfl Tryd.ntmps13 (by kernel_rfl) rfl rfl (fun _ => rfl) trivial (fun x => .inl ⟨c_w_toPuzzle.start () x, fun _ => rfl⟩) (fun x t hb ht => by
  obtain ⟨a0_Clues, _⟩ := x
  exact (w_toPuzzle_e a0_Clues).trans ht)
/-! laws.eqPuzzle -/
noncomputable def c_w_eqPuzzle : FnCx := { env := env 11 [(34, S_w_eqClueS)] [], body := bodyOf Tryd.f15, res := [.tmp 4], ins := [.ro kPuzzle, .ro kPuzzle], out := [(kbool, true)], T := Bool, fin := fun r => r.1.1, inj := fun t => ((t, ()), ((), (), ())), pts := [], fuel := 400, dr := noDr }
noncomputable def w_eqPuzzle (a0_Clues : List (Int × Int × Int)) (b1_Clues : List (Int × Int × Int)) : Bool :=
  bif !w_eqClueS_n a0_Clues b1_Clues then false else true
theorem w_eqPuzzle_e (a0_Clues : List (Int × Int × Int)) (b1_Clues : List (Int × Int × Int)) : c_w_eqPuzzle.start c_w_eqPuzzle.L (a0_Clues, b1_Clues, ()) = some (w_eqPuzzle a0_Clues b1_Clues) := by
  refine Eq.trans (b := (bif !w_eqClueS_n a0_Clues b1_Clues then some false else some true : Option Bool)) (by kernel_rfl) ?_
  unfold w_eqPuzzle
  repeat (first | rfl | apply condS)
theorem szClueS_le {l : List (Int × Int × Int)} (h : l.length ≤ maxLen) (hs : decide (w_szClueS l 1048576 < 0) = false) : l.length ≤ 1048576 := by
  rw [maxLen_eq] at h
  unfold w_szClueS at hs
  rw [wrap64 (by omega) (by omega)] at hs
  by_cases hh : (1048576 - (l.length : Int)) < 0
  · simp [hh] at hs
  · omega
theorem szPuzzle_le {y : List (Int × Int × Int)} (h : y.length ≤ maxLen) (hs : decide (w_szPuzzle y 1048576 < 0) = false) : y.length ≤ 1048576 :=
  szClueS_le (l := y) h (by
      unfold w_szPuzzle at hs
      cases h : decide (w_szClueS y 1048576 < 0)
      · rfl
      · rw [h] at hs; simp at hs)
theorem toPuzzle_eq {y : List (Int × Int × Int)} (hl : y.length ≤ 1048576) : w_toPuzzle y = some y := by
  have : decide (y.length ≤ 4294967296) = true := decide_eq_true (by omega)
  simp [w_toPuzzle, w_toClueS_n, this]
theorem eqPuzzle_eq (a b : List (Int × Int × Int)) : w_eqPuzzle a b = decide (a = b) := by
  unfold w_eqPuzzle w_eqClueS_n
  cases decide (a = b) <;> rfl
noncomputable def F_w_eqPuzzle : Ins c_w_eqPuzzle.ins → Bool := fun x => w_eqPuzzle x.1 x.2.1
noncomputable def S_w_eqPuzzle : FSpec := mkT c_w_eqPuzzle.env.pre c_w_eqPuzzle.ins c_w_eqPuzzle.out c_w_eqPuzzle.inj F_w_eqPuzzle
theorem h_w_eqPuzzle : Cert Tryd.prog 15 S_w_eqPuzzle := FnCx.certT (c := c_w_eqPuzzle) F_w_eqPuzzle (tyOk _ _ _) (spOk ⟨h_w_eqClueS, fun _ _ h => h, trivial⟩) (fun _ _ _ _ _ hs => noDr_ok) Tryd.func15 rfl rfl Tryd.ntmps15 (by kernel_rfl) rfl rfl (fun _ => rfl) trivial (fun x => .inl ⟨c_w_eqPuzzle.start () x, fun _ => rfl⟩) (fun x hb => by
  obtain ⟨a0_Clues, b1_Clues, _⟩ := x
  exact w_eqPuzzle_e a0_Clues b1_Clues)
/-! laws.markClueS -/
noncomputable def c_w_markClueS : FnCx := { env := env 34 [] [], body := bodyOf Tryd.f40, res := [.tmp 4], ins := [.wr kSClue, .ro kint], out := [(kint, true)], T := Int × List (Int × Int × Int), fin := fun r => (r.1.1, r.2.1), inj := fun t => ((t.1, ()), (t.2, (), ())), pts := [([.inLoop [1, 0, 1, 0, 0], .inBlock 0, .code [1, 1]], Shape.mk [Bs.row kClue 54 true] [(0, Ss.one (Cs.sl 0)), (1, Ss.one (Cs.sc kint)), (5, Ss.one (Cs.sc kint))] [Ss.one (Cs.sl 0), Ss.one (Cs.any)])], fuel := 400, dr := noDr }
noncomputable def w_markClueS_t1 (g1 : List (Int × (Int × Int)) → Int → Int → Option (Int × List (Int × Int × Int))) (r0 : List (Int × (Int × Int))) (k1 : Int) (i5 : Int) : Option (Int × List (Int × Int × Int)) :=
  bif decide (i5 < (↑(List.length r0) : Int)) then
    bif decide (0 ≤ i5) then
      bif decide (i5 < (↑(List.length r0) : Int)) then
        bif decide (0 ≤ i5) then
          bif
              decide
                (i5 <
                  (↑(List.length
                        (List.set r0 (Int.toNat i5)
                          (k1, Prod.snd (rdk kClue r0 i5)))) :
                    Int)) then
            bif decide (0 ≤ i5) then
              bif
                  decide
                    (i5 <
                      (↑(List.length
                            (List.set
                              (List.set r0 (Int.toNat i5)
                                (k1, Prod.snd (rdk kClue r0 i5)))
                              (Int.toNat i5)
                              (Prod.fst
                                  (rdk kClue
                                    (List.set r0 (Int.toNat i5)
                                      (k1, Prod.snd (rdk kClue r0 i5)))
                                    i5),
                                IntKind.wrap IntKind.i64 (k1 + 1),
                                Prod.snd
                                  (Prod.snd
                                    (rdk kClue
                                      (List.set r0 (Int.toNat i5)
                                        (k1, Prod.snd (rdk kClue r0 i5)))
                                      i5))))) :
                        Int)) then
                g1
                  (List.set
                    (List.set
                      (List.set r0 (Int.toNat i5)
                        (k1, Prod.snd (rdk kClue r0 i5)))
                      (Int.toNat i5)
                      (Prod.fst
                          (rdk kClue
                            (List.set r0 (Int.toNat i5)
                              (k1, Prod.snd (rdk kClue r0 i5)))
                            i5),
                        IntKind.wrap IntKind.i64 (k1 + 1),
                        Prod.snd
                          (Prod.snd
                            (rdk kClue
                              (List.set r0 (Int.toNat i5)
                                (k1, Prod.snd (rdk kClue r0 i5)))
                              i5))))
                    (Int.toNat i5)
                    (Prod.fst
                        (rdk kClue
                          (List.set
                            (List.set r0 (Int.toNat i5)
                              (k1, Prod.snd (rdk kClue r0 i5)))
                            (Int.toNat i5)
                            (Prod.fst
                                (rdk kClue
                                  (List.set r0 (Int.toNat i5)
                                    (k1, Prod.snd (rdk kClue r0 i5)))
                                  i5),
                              IntKind.wrap IntKind.i64 (k1 + 1),
                              Prod.snd
                                (Prod.snd
                                  (rdk kClue
                                    (List.set r0 (Int.toNat i5)
                                      (k1, Prod.snd (rdk kClue r0 i5)))
                                    i5))))
                          i5),
                      Prod.fst
                        (Prod.snd
                          (rdk kClue
                            (List.set
                              (List.set r0 (Int.toNat i5)
                                (k1, Prod.snd (rdk kClue r0 i5)))
                              (Int.toNat i5)
                              (Prod.fst
                                  (rdk kClue
                                    (List.set r0 (Int.toNat i5)
                                      (k1, Prod.snd (rdk kClue r0 i5)))
                                    i5),
                                IntKind.wrap IntKind.i64 (k1 + 1),
                                Prod.snd
                                  (Prod.snd
                                    (rdk kClue
                                      (List.set r0 (Int.toNat i5)
                                        (k1, Prod.snd (rdk kClue r0 i5)))
                                      i5))))
                            i5)),
                      IntKind.wrap IntKind.i64 (IntKind.wrap IntKind.i64 (k1 + 1) + 1)))
                  (IntKind.wrap IntKind.i64 (IntKind.wrap IntKind.i64 (IntKind.wrap IntKind.i64 (k1 + 1) + 1) + 1)) (IntKind.wrap IntKind.i64 (i5 + 1))
              else none
            else none
          else none
        else none
      else none
    else none
  else some (k1, r0)
noncomputable def w_markClueS_t0 (g1 : List (Int × (Int × Int)) → Int → Int → Option (Int × List (Int × Int × Int))) (a0 : List (Int × Int × Int)) (k1 : Int) : Option (Int × List (Int × Int × Int)) :=
  g1 a0 k1 0
theorem w_markClueS_ts : Tails c_w_markClueS.pts c_w_markClueS.round :=
  ⟨fun s => by
    obtain ⟨⟨r0, _⟩, ⟨_, k1, i5, _⟩, ⟨_, _, _⟩⟩ := s
    refine Tail.eq (Y := fun g => w_markClueS_t1 (fun r0 k1 i5 => g.1 ((r0, ()), ((), k1, i5, ()), ((), (), ()))) r0 k1 i5) ?_ (fun g => by kernel_rfl)
    simp only [w_markClueS_t1]; repeat (first | exact Tail.const _ | exact Tail.here _ | exact Tail.there (Tail.here _) | exact Tail.there (Tail.there (Tail.here _)) | exact Tail.there (Tail.there (Tail.there (Tail.here _))) | exact Tail.there (Tail.there (Tail.there (Tail.there (Tail.here _)))) | exact Tail.there (Tail.there (Tail.there (Tail.there (Tail.there (Tail.here _))))) | apply Tail.cond | (apply Tail.bind; intro _)), trivial⟩
theorem w_markClueS_hs : ∀ x, Tail c_w_markClueS.pts (fun g => c_w_markClueS.start g x) := fun x => by
    obtain ⟨a0, k1, _⟩ := x
    refine Tail.eq (Y := fun g => w_markClueS_t0 (fun r0 k1 i5 => g.1 ((r0, ()), ((), k1, i5, ()), ((), (), ()))) a0 k1) ?_ (fun g => by kernel_rfl)
    simp only [w_markClueS_t0]; repeat (first | exact Tail.const _ | exact Tail.here _ | exact Tail.there (Tail.here _) | exact Tail.there (Tail.there (Tail.here _)) | exact Tail.there (Tail.there (Tail.there (Tail.here _))) | exact Tail.there (Tail.there (Tail.there (Tail.there (Tail.here _)))) | exact Tail.there (Tail.there (Tail.there (Tail.there (Tail.there (Tail.here _))))) | apply Tail.cond | (apply Tail.bind; intro _))
noncomputable def w_markClueS_L1 (r0 : List (Int × (Int × Int))) (k1 : Int) (i5 : Int) : Option (Int × List (Int × Int × Int)) := c_w_markClueS.L.1 ((r0, ()), ((), k1, i5, ()), ((), (), ()))
theorem w_markClueS_u1 (r0 : List (Int × (Int × Int))) (k1 : Int) (i5 : Int) : w_markClueS_L1 r0 k1 i5 = w_markClueS_t1 w_markClueS_L1 r0 k1 i5 :=
  (congrArg (fun g => g.1 ((r0, ()), ((), k1, i5, ()), ((), (), ()))) (FnCx.L_eq w_markClueS_ts)).trans (by kernel_rfl)
noncomputable def w_markClueS (a0 : List (Int × Int × Int)) (k1 : Int) : Option (Int × List (Int × Int × Int)) := w_markClueS_t0 w_markClueS_L1 a0 k1
theorem w_markClueS_e (a0 : List (Int × Int × Int)) (k1 : Int) : c_w_markClueS.start c_w_markClueS.L (a0, k1, ()) = w_markClueS a0 k1 := by kernel_rfl
-- NICE tot
def mkClue (k : Int) : Int × Int × Int := (k, IntKind.wrap .i64 (k + 1), IntKind.wrap .i64 (IntKind.wrap .i64 (k + 1) + 1))
def nxClue (k : Int) : Int := IntKind.wrap .i64 (IntKind.wrap .i64 (IntKind.wrap .i64 (k + 1) + 1) + 1)
theorem nxClue_eq (k : Int) (h : 0 ≤ k) (h2 : k + (3 : Nat) ≤ 9223372036854775807) : nxClue k = k + (3 : Nat) := by
  unfold nxClue
  rw [wrapI (n := k + 1) (by omega) (by omega), wrapI (n := k + 1 + 1) (by omega) (by omega), wrapI (by omega) (by omega)]
  omega
noncomputable def w_markClueS_n (a : List (Int × Int × Int)) (k : Int) : Int × List (Int × Int × Int) := (markGK nxClue a k, markGL mkClue nxClue a k)
theorem w_markClueS_ok (a : List (Int × Int × Int)) (k : Int) (hb : BdI c_w_markClueS.ins (a, k, ())) : w_markClueS a k = some (w_markClueS_n a k) :=
  have hm : a.length ≤ maxLen := hb.1.1
  loop_markG (mk := mkClue) (nx := nxClue) (L := fun i r k => w_markClueS_L1 r k (i : Int)) (n := a.length)
    (fun i r k hr hi => by
      have hi' : i < r.length := by omega
      have e : ∀ v : Int × Int × Int, rdk kClue (r.set i v) i = v := fun v => rdk_set (k := kClue) hi'
      simp only [w_markClueS_u1 r k i, w_markClueS_t1, wrapS hi hm, Int.toNat_natCast, List.set_set, e, List.length_set]
      simp [hi', mkClue, nxClue]) (fun r k hr => by simp [w_markClueS_u1 r k a.length, w_markClueS_t1, hr]) a k rfl
noncomputable def F_w_markClueS : Ins c_w_markClueS.ins → (Int × List (Int × Int × Int)) := fun x => w_markClueS_n x.1 x.2.1
noncomputable def S_w_markClueS : FSpec := mkT c_w_markClueS.env.pre c_w_markClueS.ins c_w_markClueS.out c_w_markClueS.inj F_w_markClueS
theorem h_w_markClueS : Cert Tryd.prog 40 S_w_markClueS := FnCx.certT (c := c_w_markClueS) F_w_markClueS (tyOk _ _ _) (spOk trivial) (fun _ _ _ _ _ hs => noDr_ok) Tryd.func40 rfl rfl Tryd.ntmps40 (by kernel_rfl) rfl rfl (fun _ => rfl) w_markClueS_ts w_markClueS_hs (fun x hb => by
  obtain ⟨a0, k1, _⟩ := x
  exact (w_markClueS_e a0 k1).trans (w_markClueS_ok a0 k1 hb))
/-! laws.markPuzzle -/
noncomputable def c_w_markPuzzle : FnCx := { env := env 10 [(40, S_w_markClueS)] [], body := bodyOf Tryd.f22, res := [.tmp 4], ins := [.wr kPuzzle, .ro kint], out := [(kint, true)], T := Int × List (Int × Int × Int), fin := fun r => (r.1.1, r.2.1), inj := fun t => ((t.1, ()), (t.2, (), ())), pts := [], fuel := 400, dr := noDr }
noncomputable def w_markPuzzle (a0_Clues : List (Int × Int × Int)) (k1 : Int) : (Int × List (Int × Int × Int)) :=
  (markGK nxClue a0_Clues k1, markGL mkClue nxClue a0_Clues k1)
theorem w_markPuzzle_e (a0_Clues : List (Int × Int × Int)) (k1 : Int) : c_w_markPuzzle.start c_w_markPuzzle.L (a0_Clues, k1, ()) = some (w_markPuzzle a0_Clues k1) := by kernel_rfl
noncomputable def F_w_markPuzzle : Ins c_w_markPuzzle.ins → (Int × List (Int × Int × Int)) := fun x => w_markPuzzle x.1 x.2.1
noncomputable def S_w_markPuzzle : FSpec := mkT c_w_markPuzzle.env.pre c_w_markPuzzle.ins c_w_markPuzzle.out c_w_markPuzzle.inj F_w_markPuzzle
theorem h_w_markPuzzle : Cert Tryd.prog 22 S_w_markPuzzle := FnCx.certT (c := c_w_markPuzzle) F_w_markPuzzle (tyOk _ _ _) (spOk ⟨h_w_markClueS, fun _ _ h => h, trivial⟩) (fun _ _ _ _ _ hs => noDr_ok) Tryd.func22 rfl rfl Tryd.ntmps22 (by kernel_rfl) rfl rfl (fun _ => rfl) trivial (fun x => .inl ⟨c_w_markPuzzle.start () x, fun _ => rfl⟩) (fun x hb => by
  obtain ⟨a0_Clues, k1, _⟩ := x
  exact w_markPuzzle_e a0_Clues k1)
/-! laws.heldClueS -/
noncomputable def c_w_heldClueS : FnCx := { env := env 40 [] [], body := bodyOf Tryd.f41, res := [.tmp 4], ins := [.ro kSClue, .ro kint], out := [(kint, true)], T := Int, fin := fun r => r.1.1, inj := fun t => ((t, ()), ((), (), ())), pts := [([.inLoop [1, 0, 1, 0, 0], .inBlock 0, .code [1, 1]], Shape.mk [Bs.row kClue 54 false] [(0, Ss.one (Cs.sl 0)), (1, Ss.one (Cs.sc kint)), (5, Ss.one (Cs.sc kint))] [Ss.one (Cs.any), Ss.one (Cs.any)])], fuel := 400, dr := noDr }
noncomputable def w_heldClueS_t1 (g1 : List (Int × (Int × Int)) → Int → Int → Option (Int)) (r0 : List (Int × (Int × Int))) (k1 : Int) (i5 : Int) : Option Int :=
  bif decide (i5 < (↑(List.length r0) : Int)) then
    bif decide (0 ≤ i5) then
      bif decide (i5 < (↑(List.length r0) : Int)) then
        bif Prod.fst (rdk kClue r0 i5) != k1 then some (-1)
        else
          bif decide (0 ≤ i5) then
            bif decide (i5 < (↑(List.length r0) : Int)) then
              bif
                  Prod.fst (Prod.snd (rdk kClue r0 i5)) !=
                    IntKind.wrap IntKind.i64 (k1 + 1) then
                some (-1)
              else
                bif decide (0 ≤ i5) then
                  bif decide (i5 < (↑(List.length r0) : Int)) then
                    bif
                        Prod.snd (Prod.snd (rdk kClue r0 i5)) !=
                          IntKind.wrap IntKind.i64 (IntKind.wrap IntKind.i64 (k1 + 1) + 1) then
                      some (-1)
                    else
                      g1 r0 (IntKind.wrap IntKind.i64 (IntKind.wrap IntKind.i64 (IntKind.wrap IntKind.i64 (k1 + 1) + 1) + 1)) (IntKind.wrap IntKind.i64 (i5 + 1))
                  else none
                else none
            else none
          else none
      else none
    else none
  else some k1
noncomputable def w_heldClueS_t0 (g1 : List (Int × (Int × Int)) → Int → Int → Option (Int)) (a0 : List (Int × Int × Int)) (k1 : Int) : Option Int :=
  g1 a0 k1 0
theorem w_heldClueS_ts : Tails c_w_heldClueS.pts c_w_heldClueS.round :=
  ⟨fun s => by
    obtain ⟨⟨r0, _⟩, ⟨_, k1, i5, _⟩, ⟨_, _, _⟩⟩ := s
    refine Tail.eq (Y := fun g => w_heldClueS_t1 (fun r0 k1 i5 => g.1 ((r0, ()), ((), k1, i5, ()), ((), (), ()))) r0 k1 i5) ?_ (fun g => by kernel_rfl)
    simp only [w_heldClueS_t1]; repeat (first | exact Tail.const _ | exact Tail.here _ | exact Tail.there (Tail.here _) | exact Tail.there (Tail.there (Tail.here _)) | exact Tail.there (Tail.there (Tail.there (Tail.here _))) | exact Tail.there (Tail.there (Tail.there (Tail.there (Tail.here _)))) | exact Tail.there (Tail.there (Tail.there (Tail.there (Tail.there (Tail.here _))))) | apply Tail.cond | (apply Tail.bind; intro _)), trivial⟩
theorem w_heldClueS_hs : ∀ x, Tail c_w_heldClueS.pts (fun g => c_w_heldClueS.start g x) := fun x => by
    obtain ⟨a0, k1, _⟩ := x
    refine Tail.eq (Y := fun g => w_heldClueS_t0 (fun r0 k1 i5 => g.1 ((r0, ()), ((), k1, i5, ()), ((), (), ()))) a0 k1) ?_ (fun g => by kernel_rfl)
    simp only [w_heldClueS_t0]; repeat (first | exact Tail.const _ | exact Tail.here _ | exact Tail.there (Tail.here _) | exact Tail.there (Tail.there (Tail.here _)) | exact Tail.there (Tail.there (Tail.there (Tail.here _))) | exact Tail.there (Tail.there (Tail.there (Tail.there (Tail.here _)))) | exact Tail.there (Tail.there (Tail.there (Tail.there (Tail.there (Tail.here _))))) | apply Tail.cond | (apply Tail.bind; intro _))
noncomputable def w_heldClueS_L1 (r0 : List (Int × (Int × Int))) (k1 : Int) (i5 : Int) : Option Int := c_w_heldClueS.L.1 ((r0, ()), ((), k1, i5, ()), ((), (), ()))
theorem w_heldClueS_u1 (r0 : List (Int × (Int × Int))) (k1 : Int) (i5 : Int) : w_heldClueS_L1 r0 k1 i5 = w_heldClueS_t1 w_heldClueS_L1 r0 k1 i5 :=
  (congrArg (fun g => g.1 ((r0, ()), ((), k1, i5, ()), ((), (), ()))) (FnCx.L_eq w_heldClueS_ts)).trans (by kernel_rfl)
noncomputable def w_heldClueS (a0 : List (Int × Int × Int)) (k1 : Int) : Option Int := w_heldClueS_t0 w_heldClueS_L1 a0 k1
theorem w_heldClueS_e (a0 : List (Int × Int × Int)) (k1 : Int) : c_w_heldClueS.start c_w_heldClueS.L (a0, k1, ()) = w_heldClueS a0 k1 := by kernel_rfl
-- NICE tot
def ckClue (x : Int × Int × Int) (k : Int) : Bool := x.1 == k && (x.2.1 == IntKind.wrap .i64 (k + 1) && x.2.2 == IntKind.wrap .i64 (IntKind.wrap .i64 (k + 1) + 1))
theorem ckClue_mk (k : Int) : ckClue (mkClue k) k = true := by simp [ckClue, mkClue]
noncomputable def w_heldClueS_n (a : List (Int × Int × Int)) (k : Int) : Int := heldGL ckClue nxClue a k
theorem w_heldClueS_ok (a : List (Int × Int × Int)) (k : Int) (hb : BdI c_w_heldClueS.ins (a, k, ())) : w_heldClueS a k = some (w_heldClueS_n a k) :=
  have hm : a.length ≤ maxLen := hb.1.1
  loop_heldG (ck := ckClue) (nx := nxClue) (L := fun i k => w_heldClueS_L1 a k (i : Int)) (l := a)
    (fun i h k => by
      simp only [w_heldClueS_u1 a k i, w_heldClueS_t1, rdk_get (k := kClue) h, wrapS h hm, ckClue, nxClue, bne]
      cases h1 : a[i].1 == k <;> cases h2 : a[i].2.1 == IntKind.wrap .i64 (k + 1) <;> cases h3 : a[i].2.2 == IntKind.wrap .i64 (IntKind.wrap .i64 (k + 1) + 1) <;> simp [h]) (fun k => by simp [w_heldClueS_u1 a k a.length, w_heldClueS_t1]) k
noncomputable def F_w_heldClueS : Ins c_w_heldClueS.ins → Int := fun x => w_heldClueS_n x.1 x.2.1
noncomputable def S_w_heldClueS : FSpec := mkT c_w_heldClueS.env.pre c_w_heldClueS.ins c_w_heldClueS.out c_w_heldClueS.inj F_w_heldClueS
theorem h_w_heldClueS : Cert Tryd.prog 41 S_w_heldClueS := FnCx.certT (c := c_w_heldClueS) F_w_heldClueS (tyOk _ _ _) (spOk trivial) (fun _ _ _ _ _ hs => noDr_ok) Tryd.func41 rfl rfl Tryd.ntmps41 (by kernel_rfl) rfl rfl (fun _ => rfl) w_heldClueS_ts w_heldClueS_hs (fun x hb => by
  obtain ⟨a0, k1, _⟩ := x
  exact (w_heldClueS_e a0 k1).trans (w_heldClueS_ok a0 k1 hb))
/-! laws.heldPuzzle -/
noncomputable def c_w_heldPuzzle : FnCx := { env := env 12 [(41, S_w_heldClueS)] [], body := bodyOf Tryd.f23, res := [.tmp 4], ins := [.ro kPuzzle, .ro kint], out := [(kint, true)], T := Int, fin := fun r => r.1.1, inj := fun t => ((t, ()), ((), (), ())), pts := [], fuel := 400, dr := noDr }
noncomputable def w_heldPuzzle (a0_Clues : List (Int × Int × Int)) (k1 : Int) : Int :=
  bif decide (w_heldClueS_n a0_Clues k1 < 0) then -1 else w_heldClueS_n a0_Clues k1
theorem w_heldPuzzle_e (a0_Clues : List (Int × Int × Int)) (k1 : Int) : c_w_heldPuzzle.start c_w_heldPuzzle.L (a0_Clues, k1, ()) = some (w_heldPuzzle a0_Clues k1) := by
  refine Eq.trans (b := (bif decide (w_heldClueS_n a0_Clues k1 < 0) then some (-1) else some (w_heldClueS_n a0_Clues k1) : Option Int)) (by kernel_rfl) ?_
  unfold w_heldPuzzle
  repeat (first | rfl | apply condS)
/-- a puzzle of any size, marked: what is held is what was marked -/
theorem heldPuzzle_eq (a : List (Int × Int × Int)) (h : a.length ≤ 1000000000000) : decide (markGK nxClue a 1 < 0) = false ∧ w_heldPuzzle (markGL mkClue nxClue a 1) 1 = markGK nxClue a 1 := by
  have e1 : markGK nxClue a 1 = 1 + (3 : Nat) * a.length := markGK_eq nxClue_eq a 1 (by omega) (by omega)
  have h1 : ¬ (1 + ((3 : Nat) : Int) * a.length < 0) := by omega
  constructor
  · rw [e1]; simpa using h1
  · unfold w_heldPuzzle w_heldClueS_n
    rw [heldG_mark ckClue_mk, e1]
    rw [decide_eq_false h1]
    rfl
noncomputable def F_w_heldPuzzle : Ins c_w_heldPuzzle.ins → Int := fun x => w_heldPuzzle x.1 x.2.1
noncomputable def S_w_heldPuzzle : FSpec := mkT c_w_heldPuzzle.env.pre c_w_heldPuzzle.ins c_w_heldPuzzle.out c_w_heldPuzzle.inj F_w_heldPuzzle
theorem h_w_heldPuzzle : Cert Tryd.prog 23 S_w_heldPuzzle := FnCx.certT (c := c_w_heldPuzzle) F_w_heldPuzzle (tyOk _ _ _) (spOk ⟨h_w_heldClueS, fun _ _ h => h, trivial⟩) (fun _ _ _ _ _ hs => noDr_ok) Tryd.func23 rfl rfl Tryd.ntmps23 (by kernel_rfl) rfl rfl (fun _ => rfl) trivial (fun x => .inl ⟨c_w_heldPuzzle.start () x, fun _ => rfl⟩) (fun x hb => by
  obtain ⟨a0_Clues, k1, _⟩ := x
  exact w_heldPuzzle_e a0_Clues k1)
/-! laws.FnExactParsePuzzle -/
noncomputable def c_w_FnExactParsePuzzle : FnCx := { env := env 66 [(20, S_s_ParsePuzzle), (21, S_i_ParsePuzzle), (15, S_w_eqPuzzle), (22, S_w_markPuzzle), (23, S_w_heldPuzzle)] [], body := bodyOf Tryd.f6, res := [.tmp 2], ins := [.ro kstring], out := [(kbool, true)], T := Bool, fin := fun r => r.1.1, inj := fun t => ((t, ()), ((), ())), pts := [], fuel := 400, dr := noDr }
noncomputable def w_FnExactParsePuzzle (aT0 : ByteArray) : Option Bool :=
  bif decide ((↑(ByteArray.size aT0) : Int) > 1048576) then some true
  else
    Option.bind (s_ParsePuzzle aT0) fun r =>
      Option.bind (i_ParsePuzzle aT0) fun r_1 =>
        bif !w_eqPuzzle (Prod.fst r_1) (Prod.fst r) then some false
        else
          bif !Prod.snd r_1 == Prod.snd r then some false
          else
            bif decide (w_heldPuzzle (markGL mkClue nxClue (Prod.fst r_1) 1) 1 < 0) then some false
            else
              bif w_heldPuzzle (markGL mkClue nxClue (Prod.fst r_1) 1) 1 != markGK nxClue (Prod.fst r_1) 1 then some false
              else
                Option.bind (i_ParsePuzzle aT0) fun r_2 =>
                  bif !w_eqPuzzle (Prod.fst r_2) (Prod.fst r) then some false
                  else
                    bif !Prod.snd r_2 == Prod.snd r then some false
                    else
                      bif decide (w_heldPuzzle (markGL mkClue nxClue (Prod.fst r_1) 1) 1 < 0) then some false
                      else bif w_heldPuzzle (markGL mkClue nxClue (Prod.fst r_1) 1) 1 != markGK nxClue (Prod.fst r_1) 1 then some false else some true
theorem w_FnExactParsePuzzle_e (aT0 : ByteArray) : c_w_FnExactParsePuzzle.start c_w_FnExactParsePuzzle.L (aT0, ()) = w_FnExactParsePuzzle aT0 := by kernel_rfl
noncomputable def F_w_FnExactParsePuzzle : Ins c_w_FnExactParsePuzzle.ins → Option Bool := fun x => w_FnExactParsePuzzle x.1
noncomputable def S_w_FnExactParsePuzzle : FSpec := mkF c_w_FnExactParsePuzzle.env.pre c_w_FnExactParsePuzzle.ins c_w_FnExactParsePuzzle.out c_w_FnExactParsePuzzle.inj F_w_FnExactParsePuzzle
theorem h_w_FnExactParsePuzzle : Cert Tryd.prog 6 S_w_FnExactParsePuzzle := FnCx.certF (c := c_w_FnExactParsePuzzle) F_w_FnExactParsePuzzle (tyOk _ _ _) (spOk ⟨h_s_ParsePuzzle, fun _ _ h => h, ⟨h_i_ParsePuzzle, fun _ _ h => h, ⟨h_w_eqPuzzle, fun _ _ h => h, ⟨h_w_markPuzzle, fun _ _ h => h, ⟨h_w_heldPuzzle, fun _ _ h => h, trivial⟩⟩⟩⟩⟩) (fun _ _ _ _ _ hs => noDr_ok) Tryd.func6 rfl rfl Tryd.ntmps6 (by kernel_rfl) rfl rfl (fun _ => rfl) trivial (fun x => .inl ⟨c_w_FnExactParsePuzzle.start () x, fun _ => rfl⟩) (fun x t hb ht => by
  obtain ⟨aT0, _⟩ := x
  exact (w_FnExactParsePuzzle_e aT0).trans ht)
end Go.Proofs.YtlffgllmjjkfdaaDoor.V
