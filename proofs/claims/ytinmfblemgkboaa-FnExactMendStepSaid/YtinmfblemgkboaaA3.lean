/- Functions of the program, as plain functions. No condition. -/
import Derived.Test.YtinmfblemgkboaaA2
set_option linter.unusedVariables false
set_option linter.unusedSimpArgs false
set_option maxRecDepth 100000
namespace Go.Proofs.Ytinmfblemgkboaa.V
open Go Go.Ev Go.Proofs
/-! spec.AddClue -/
noncomputable def c_s_AddClue : FnCx := { env := env 29 [(107, S_s_pzGood), (99, S_s_pzClue)] [], body := bodyOf Try.f35, res := [.cell 4 48, .tmp 5], ins := [.ro kPuzzle, .ro kClue], out := [(kPuzzle, true), (kbool, true)], T := List (Int × Int × Int) × Bool, fin := fun r => (r.1.1, r.1.2.1), inj := fun t => ((t.1, t.2, ()), ((), (), ())), pts := [], fuel := 400, dr := evDr (env 29 [(107, S_s_pzGood), (99, S_s_pzClue)] []) }
noncomputable def s_AddClue (p0_Clues : List (Int × Int × Int)) (c1_Kind : Int) (c1_A : Int) (c1_B : Int) : Option (List (Int × Int × Int) × Bool) :=
  bif !s_pzGood_n p0_Clues then some ([], false)
  else
    bif !s_pzClue c1_Kind c1_A c1_B then some ([], false)
    else
      bif (↑(List.length p0_Clues) : Int) == 6 then some ([], false)
      else
        bif Nat.ble (0 + List.length p0_Clues) 4294967296 then
          bif Nat.ble (List.length ([] ++ p0_Clues) + 1) 4294967296 then some ([] ++ p0_Clues ++ [(c1_Kind, c1_A, c1_B)], true) else none
        else none
theorem s_AddClue_e (p0_Clues : List (Int × Int × Int)) (c1_Kind : Int) (c1_A : Int) (c1_B : Int) : c_s_AddClue.start c_s_AddClue.L (p0_Clues, (c1_Kind, c1_A, c1_B), ()) = s_AddClue p0_Clues c1_Kind c1_A c1_B := by kernel_rfl
-- NICE tot
noncomputable def s_AddClue_n (p : List (Int × Int × Int)) (a b c : Int) : List (Int × Int × Int) × Bool := bif s_pzGood_n p && (s_pzClue a b c && !decide (p.length = 6)) then (p ++ [(a, b, c)], true) else ([], false)
theorem s_pzGood_len {p : List (Int × Int × Int)} (h : s_pzGood_n p = true) : p.length ≤ 6 := by
  unfold s_pzGood_n at h
  cases hl : decide ((p.length : Int) > 6)
  · have := of_decide_eq_false hl; omega
  · rw [hl] at h; cases h
theorem s_AddClue_ok (p : List (Int × Int × Int)) (a b c : Int) (hb : BdI c_s_AddClue.ins (p, (a, b, c), ())) : s_AddClue p a b c = some (s_AddClue_n p a b c) := by
  unfold s_AddClue s_AddClue_n
  cases h1 : s_pzGood_n p
  · rfl
  · have hl := s_pzGood_len h1
    have e : ((p.length : Int) == 6) = decide (p.length = 6) := by by_cases h : p.length = 6 <;> simp [h]; omega
    have h2 : p.length ≤ 4294967296 := by omega
    have h3 : p.length ≤ 4294967295 := by omega
    rw [e]
    cases s_pzClue a b c <;> cases decide (p.length = 6) <;> simp [ble_dec, h2, h3]
noncomputable def F_s_AddClue : Ins c_s_AddClue.ins → (List (Int × Int × Int) × Bool) := fun x => s_AddClue_n x.1 x.2.1.1 x.2.1.2.1 x.2.1.2.2
noncomputable def S_s_AddClue : FSpec := mkT c_s_AddClue.env.pre c_s_AddClue.ins c_s_AddClue.out c_s_AddClue.inj F_s_AddClue
theorem h_s_AddClue : Cert Try.prog 35 S_s_AddClue := FnCx.certT (c := c_s_AddClue) F_s_AddClue (tyOk _ _ _) (spOk ⟨h_s_pzGood, fun _ _ _ => trivial, ⟨h_s_pzClue, fun _ _ _ => trivial, trivial⟩⟩) (fun _ _ _ _ _ hs => evDr_ok (tyOk _ _ _) hs follows) Try.func35 rfl rfl Try.ntmps35 (by kernel_rfl) rfl rfl (fun _ => rfl) trivial (fun x => .inl ⟨c_s_AddClue.start () x, fun _ => rfl⟩) (fun x hb => by
  obtain ⟨p0_Clues, ⟨c1_Kind, c1_A, c1_B⟩, _⟩ := x
  exact (s_AddClue_e p0_Clues c1_Kind c1_A c1_B).trans (s_AddClue_ok p0_Clues c1_Kind c1_A c1_B hb))
/-! slices.Clone[[]impl.Clue,impl.Clue] -/
noncomputable def c_slices_Clone_Clue : FnCx := { env := env 8 [] [], body := bodyOf Try.f119, res := [.tmp 2], ins := [.ro kSClue], out := [(kSClue, true)], T := List (Int × Int × Int), fin := fun r => r.1.1, inj := fun t => ((t, ()), ((), ())), pts := [], fuel := 400, dr := noDr }
noncomputable def slices_Clone_Clue (s0 : List (Int × Int × Int)) : Option (List (Int × Int × Int)) :=
  bif decide (0 < (↑(List.length s0) : Int)) then bif Nat.ble (0 + List.length s0) 4294967296 then some ([] ++ s0) else none
  else both (some []) (bif Nat.ble (0 + List.length s0) 4294967296 then some ([] ++ s0) else none)
theorem slices_Clone_Clue_e (s0 : List (Int × Int × Int)) : c_slices_Clone_Clue.start c_slices_Clone_Clue.L (s0, ()) = slices_Clone_Clue s0 := by kernel_rfl
-- NICE opt
noncomputable def slices_Clone_Clue_n (s : List (Int × Int × Int)) : Option (List (Int × Int × Int)) := bif decide (s.length ≤ 4294967296) then some s else none
theorem slices_Clone_Clue_ok (s : List (Int × Int × Int)) (hb : BdI c_slices_Clone_Clue.ins (s, ())) (t : List (Int × Int × Int)) (ht : slices_Clone_Clue_n s = some t) : slices_Clone_Clue s = some t := by
  unfold slices_Clone_Clue_n at ht
  cases h : decide (s.length ≤ 4294967296)
  · rw [h] at ht; cases ht
  · rw [h] at ht; cases ht
    have h := of_decide_eq_true h
    unfold slices_Clone_Clue
    cases s with
    | nil => simp [ble_dec, both_same]
    | cons x l =>
      have h' : l.length + 1 ≤ 4294967296 := h
      have h2 : (0 : Int) < l.length + 1 := by omega
      simp [ble_dec, h', h2]
noncomputable def F_slices_Clone_Clue : Ins c_slices_Clone_Clue.ins → Option (List (Int × Int × Int)) := fun x => slices_Clone_Clue_n x.1
noncomputable def S_slices_Clone_Clue : FSpec := mkF c_slices_Clone_Clue.env.pre c_slices_Clone_Clue.ins c_slices_Clone_Clue.out c_slices_Clone_Clue.inj F_slices_Clone_Clue
theorem h_slices_Clone_Clue : Cert Try.prog 119 S_slices_Clone_Clue := FnCx.certF (c := c_slices_Clone_Clue) F_slices_Clone_Clue (tyOk _ _ _) (spOk trivial) (fun _ _ _ _ _ hs => noDr_ok) Try.func119 rfl rfl Try.ntmps119 (by kernel_rfl) rfl rfl (fun _ => rfl) trivial (fun x => .inl ⟨c_slices_Clone_Clue.start () x, fun _ => rfl⟩) (fun x t hb ht => by
  obtain ⟨s0, _⟩ := x
  exact (slices_Clone_Clue_e s0).trans (slices_Clone_Clue_ok s0 hb t ht))
/-! impl.AddClue -/
noncomputable def c_i_AddClue : FnCx := { env := env 28 [(26, S_i_IsPuzzle), (17, S_i_IsClue), (119, S_slices_Clone_Clue)] [], body := bodyOf Try.f36, res := [.cell 4 48, .tmp 5], ins := [.ro kPuzzle, .ro kClue], out := [(kPuzzle, true), (kbool, true)], T := List (Int × Int × Int) × Bool, fin := fun r => (r.1.1, r.1.2.1), inj := fun t => ((t.1, t.2, ()), ((), (), ())), pts := [], fuel := 400, dr := evDr (env 28 [(26, S_i_IsPuzzle), (17, S_i_IsClue), (119, S_slices_Clone_Clue)] []) }
noncomputable def i_AddClue (p0_Clues : List (Int × Int × Int)) (c1_Kind : Int) (c1_A : Int) (c1_B : Int) : Option (List (Int × Int × Int) × Bool) :=
  bif !i_IsPuzzle p0_Clues then some ([], false)
  else
    bif !i_IsClue c1_Kind c1_A c1_B then some ([], false)
    else
      bif (↑(List.length p0_Clues) : Int) == 6 then some ([], false)
      else Option.bind (slices_Clone_Clue_n p0_Clues) fun r => bif Nat.ble (List.length r + 1) 4294967296 then some (r ++ [(c1_Kind, c1_A, c1_B)], true) else none
theorem i_AddClue_e (p0_Clues : List (Int × Int × Int)) (c1_Kind : Int) (c1_A : Int) (c1_B : Int) : c_i_AddClue.start c_i_AddClue.L (p0_Clues, (c1_Kind, c1_A, c1_B), ()) = i_AddClue p0_Clues c1_Kind c1_A c1_B := by kernel_rfl
-- NICE tot
noncomputable def i_AddClue_n (p : List (Int × Int × Int)) (a b c : Int) : List (Int × Int × Int) × Bool := s_AddClue_n p a b c
theorem i_AddClue_ok (p : List (Int × Int × Int)) (a b c : Int) (hb : BdI c_i_AddClue.ins (p, (a, b, c), ())) : i_AddClue p a b c = some (i_AddClue_n p a b c) := by
  unfold i_AddClue i_AddClue_n s_AddClue_n
  rw [IsPuzzle_eq, IsClue_eq]
  unfold s_IsPuzzle
  cases h1 : s_pzGood_n p
  · rfl
  · have hl := s_pzGood_len h1
    have e : ((p.length : Int) == 6) = decide (p.length = 6) := by by_cases h : p.length = 6 <;> simp [h]; omega
    have h2 : p.length ≤ 4294967296 := by omega
    have h3 : p.length ≤ 4294967295 := by omega
    rw [e]
    cases s_pzClue a b c <;> cases decide (p.length = 6) <;> simp [ble_dec, h2, h3, slices_Clone_Clue_n]
noncomputable def F_i_AddClue : Ins c_i_AddClue.ins → (List (Int × Int × Int) × Bool) := fun x => i_AddClue_n x.1 x.2.1.1 x.2.1.2.1 x.2.1.2.2
noncomputable def S_i_AddClue : FSpec := mkT c_i_AddClue.env.pre c_i_AddClue.ins c_i_AddClue.out c_i_AddClue.inj F_i_AddClue
theorem h_i_AddClue : Cert Try.prog 36 S_i_AddClue := FnCx.certT (c := c_i_AddClue) F_i_AddClue (tyOk _ _ _) (spOk ⟨h_i_IsPuzzle, fun _ _ _ => trivial, ⟨h_i_IsClue, fun _ _ _ => trivial, ⟨h_slices_Clone_Clue, fun _ _ _ => trivial, trivial⟩⟩⟩) (fun _ _ _ _ _ hs => evDr_ok (tyOk _ _ _) hs follows) Try.func36 rfl rfl Try.ntmps36 (by kernel_rfl) rfl rfl (fun _ => rfl) trivial (fun x => .inl ⟨c_i_AddClue.start () x, fun _ => rfl⟩) (fun x hb => by
  obtain ⟨p0_Clues, ⟨c1_Kind, c1_A, c1_B⟩, _⟩ := x
  exact (i_AddClue_e p0_Clues c1_Kind c1_A c1_B).trans (i_AddClue_ok p0_Clues c1_Kind c1_A c1_B hb))
/-! laws.markClueS -/
noncomputable def c_w_markClueS : FnCx := { env := env 34 [] [], body := bodyOf Try.f120, res := [.tmp 4], ins := [.wr kSClue, .ro kint], out := [(kint, true)], T := Int × List (Int × Int × Int), fin := fun r => (r.1.1, r.2.1), inj := fun t => ((t.1, ()), (t.2, (), ())), pts := [([.inLoop [1, 0, 1, 0, 0], .inBlock 0, .code [1, 1]], Shape.mk [Bs.row kwClue 25 true] [(0, Ss.one (Cs.sl 0)), (1, Ss.one (Cs.sc kint)), (5, Ss.one (Cs.sc kint))] [Ss.one (Cs.sl 0), Ss.one (Cs.any)])], fuel := 400, dr := noDr }
noncomputable def w_markClueS_t1 (g1 : List (Int × (Int × Int)) → Int → Int → Option (Int × List (Int × Int × Int))) (r0 : List (Int × (Int × Int))) (k1 : Int) (i5 : Int) : Option (Int × List (Int × Int × Int)) :=
  bif decide (i5 < (↑(List.length r0) : Int)) then
    bif decide (0 ≤ i5) then
      bif decide (i5 < (↑(List.length r0) : Int)) then
        bif decide (0 ≤ i5) then
          bif
              decide
                (i5 <
                  (↑(List.length
                        (List.set r0 (Int.toNat i5)
                          (k1, Prod.snd (rdk kwClue r0 i5)))) :
                    Int)) then
            bif decide (0 ≤ i5) then
              bif
                  decide
                    (i5 <
                      (↑(List.length
                            (List.set
                              (List.set r0 (Int.toNat i5)
                                (k1, Prod.snd (rdk kwClue r0 i5)))
                              (Int.toNat i5)
                              (Prod.fst
                                  (rdk kwClue
                                    (List.set r0 (Int.toNat i5)
                                      (k1, Prod.snd (rdk kwClue r0 i5)))
                                    i5),
                                IntKind.wrap IntKind.i64 (k1 + 1),
                                Prod.snd
                                  (Prod.snd
                                    (rdk kwClue
                                      (List.set r0 (Int.toNat i5)
                                        (k1, Prod.snd (rdk kwClue r0 i5)))
                                      i5))))) :
                        Int)) then
                g1
                  (List.set
                    (List.set
                      (List.set r0 (Int.toNat i5)
                        (k1, Prod.snd (rdk kwClue r0 i5)))
                      (Int.toNat i5)
                      (Prod.fst
                          (rdk kwClue
                            (List.set r0 (Int.toNat i5)
                              (k1, Prod.snd (rdk kwClue r0 i5)))
                            i5),
                        IntKind.wrap IntKind.i64 (k1 + 1),
                        Prod.snd
                          (Prod.snd
                            (rdk kwClue
                              (List.set r0 (Int.toNat i5)
                                (k1, Prod.snd (rdk kwClue r0 i5)))
                              i5))))
                    (Int.toNat i5)
                    (Prod.fst
                        (rdk kwClue
                          (List.set
                            (List.set r0 (Int.toNat i5)
                              (k1, Prod.snd (rdk kwClue r0 i5)))
                            (Int.toNat i5)
                            (Prod.fst
                                (rdk kwClue
                                  (List.set r0 (Int.toNat i5)
                                    (k1, Prod.snd (rdk kwClue r0 i5)))
                                  i5),
                              IntKind.wrap IntKind.i64 (k1 + 1),
                              Prod.snd
                                (Prod.snd
                                  (rdk kwClue
                                    (List.set r0 (Int.toNat i5)
                                      (k1, Prod.snd (rdk kwClue r0 i5)))
                                    i5))))
                          i5),
                      Prod.fst
                        (Prod.snd
                          (rdk kwClue
                            (List.set
                              (List.set r0 (Int.toNat i5)
                                (k1, Prod.snd (rdk kwClue r0 i5)))
                              (Int.toNat i5)
                              (Prod.fst
                                  (rdk kwClue
                                    (List.set r0 (Int.toNat i5)
                                      (k1, Prod.snd (rdk kwClue r0 i5)))
                                    i5),
                                IntKind.wrap IntKind.i64 (k1 + 1),
                                Prod.snd
                                  (Prod.snd
                                    (rdk kwClue
                                      (List.set r0 (Int.toNat i5)
                                        (k1, Prod.snd (rdk kwClue r0 i5)))
                                      i5))))
                            i5)),
                      IntKind.wrap IntKind.i64 (IntKind.wrap IntKind.i64 (k1 + 1) + 1)))
                  (IntKind.wrap IntKind.i64 (IntKind.wrap IntKind.i64 (IntKind.wrap IntKind.i64 (k1 + 1) + 1) + 1)) (IntKind.wrap IntKind.i64 (i5 + 1))
              else none
            else none
          else none
        else none
      else none
    else none
  else some (k1, r0)
noncomputable def w_markClueS_t0 (g1 : List (Int × (Int × Int)) → Int → Int → Option (Int × List (Int × Int × Int))) (a0 : List (Int × Int × Int)) (k1 : Int) : Option (Int × List (Int × Int × Int)) :=
  g1 a0 k1 0
theorem w_markClueS_ts : Tails c_w_markClueS.pts c_w_markClueS.round :=
  ⟨fun s => by
    obtain ⟨⟨r0, _⟩, ⟨_, k1, i5, _⟩, ⟨_, _, _⟩⟩ := s
    refine Tail.eq (Y := fun g => w_markClueS_t1 (fun r0 k1 i5 => g.1 ((r0, ()), ((), k1, i5, ()), ((), (), ()))) r0 k1 i5) ?_ (fun g => by kernel_rfl)
    simp only [w_markClueS_t1]; repeat (first | exact Tail.const _ | exact Tail.here _ | exact Tail.there (Tail.here _) | exact Tail.there (Tail.there (Tail.here _)) | exact Tail.there (Tail.there (Tail.there (Tail.here _))) | exact Tail.there (Tail.there (Tail.there (Tail.there (Tail.here _)))) | exact Tail.there (Tail.there (Tail.there (Tail.there (Tail.there (Tail.here _))))) | apply Tail.cond | (apply Tail.bind; intro _)), trivial⟩
theorem w_markClueS_hs : ∀ x, Tail c_w_markClueS.pts (fun g => c_w_markClueS.start g x) := fun x => by
    obtain ⟨a0, k1, _⟩ := x
    refine Tail.eq (Y := fun g => w_markClueS_t0 (fun r0 k1 i5 => g.1 ((r0, ()), ((), k1, i5, ()), ((), (), ()))) a0 k1) ?_ (fun g => by kernel_rfl)
    simp only [w_markClueS_t0]; repeat (first | exact Tail.const _ | exact Tail.here _ | exact Tail.there (Tail.here _) | exact Tail.there (Tail.there (Tail.here _)) | exact Tail.there (Tail.there (Tail.there (Tail.here _))) | exact Tail.there (Tail.there (Tail.there (Tail.there (Tail.here _)))) | exact Tail.there (Tail.there (Tail.there (Tail.there (Tail.there (Tail.here _))))) | apply Tail.cond | (apply Tail.bind; intro _))
noncomputable def w_markClueS_L1 (r0 : List (Int × (Int × Int))) (k1 : Int) (i5 : Int) : Option (Int × List (Int × Int × Int)) := c_w_markClueS.L.1 ((r0, ()), ((), k1, i5, ()), ((), (), ()))
theorem w_markClueS_u1 (r0 : List (Int × (Int × Int))) (k1 : Int) (i5 : Int) : w_markClueS_L1 r0 k1 i5 = w_markClueS_t1 w_markClueS_L1 r0 k1 i5 :=
  (congrArg (fun g => g.1 ((r0, ()), ((), k1, i5, ()), ((), (), ()))) (FnCx.L_eq w_markClueS_ts)).trans (by kernel_rfl)
noncomputable def w_markClueS (a0 : List (Int × Int × Int)) (k1 : Int) : Option (Int × List (Int × Int × Int)) := w_markClueS_t0 w_markClueS_L1 a0 k1
theorem w_markClueS_e (a0 : List (Int × Int × Int)) (k1 : Int) : c_w_markClueS.start c_w_markClueS.L (a0, k1, ()) = w_markClueS a0 k1 := by kernel_rfl
-- NICE tot
def mkClue (k : Int) : Int × Int × Int := (k, IntKind.wrap .i64 (k + 1), IntKind.wrap .i64 (IntKind.wrap .i64 (k + 1) + 1))
def nxClue (k : Int) : Int := IntKind.wrap .i64 (IntKind.wrap .i64 (IntKind.wrap .i64 (k + 1) + 1) + 1)
theorem nxClue_eq (k : Int) (h : 0 ≤ k) (h2 : k + (3 : Nat) ≤ 9223372036854775807) : nxClue k = k + (3 : Nat) := by
  unfold nxClue
  rw [wrapI (n := k + 1) (by omega) (by omega), wrapI (n := k + 1 + 1) (by omega) (by omega), wrapI (by omega) (by omega)]
  omega
noncomputable def w_markClueS_n (a : List (Int × Int × Int)) (k : Int) : Int × List (Int × Int × Int) := (markGK nxClue a k, markGL mkClue nxClue a k)
theorem w_markClueS_ok (a : List (Int × Int × Int)) (k : Int) (hb : BdI c_w_markClueS.ins (a, k, ())) : w_markClueS a k = some (w_markClueS_n a k) :=
  have hm : a.length ≤ maxLen := hb.1.1
  loop_markG (mk := mkClue) (nx := nxClue) (L := fun i r k => w_markClueS_L1 r k (i : Int)) (n := a.length)
    (fun i r k hr hi => by
      have hi' : i < r.length := by omega
      have e : ∀ v : Int × Int × Int, rdk kClue (r.set i v) i = v := fun v => rdk_set (k := kClue) hi'
      simp only [w_markClueS_u1 r k i, w_markClueS_t1, wrapS hi hm, Int.toNat_natCast, List.set_set, e, List.length_set]
      simp [hi', mkClue, nxClue]) (fun r k hr => by simp [w_markClueS_u1 r k a.length, w_markClueS_t1, hr]) a k rfl
noncomputable def F_w_markClueS : Ins c_w_markClueS.ins → (Int × List (Int × Int × Int)) := fun x => w_markClueS_n x.1 x.2.1
noncomputable def S_w_markClueS : FSpec := mkT c_w_markClueS.env.pre c_w_markClueS.ins c_w_markClueS.out c_w_markClueS.inj F_w_markClueS
theorem h_w_markClueS : Cert Try.prog 120 S_w_markClueS := FnCx.certT (c := c_w_markClueS) F_w_markClueS (tyOk _ _ _) (spOk trivial) (fun _ _ _ _ _ hs => noDr_ok) Try.func120 rfl rfl Try.ntmps120 (by kernel_rfl) rfl rfl (fun _ => rfl) w_markClueS_ts w_markClueS_hs (fun x hb => by
  obtain ⟨a0, k1, _⟩ := x
  exact (w_markClueS_e a0 k1).trans (w_markClueS_ok a0 k1 hb))
/-! laws.markPuzzle -/
noncomputable def c_w_markPuzzle : FnCx := { env := env 10 [(120, S_w_markClueS)] [], body := bodyOf Try.f37, res := [.tmp 4], ins := [.wr kPuzzle, .ro kint], out := [(kint, true)], T := Int × List (Int × Int × Int), fin := fun r => (r.1.1, r.2.1), inj := fun t => ((t.1, ()), (t.2, (), ())), pts := [], fuel := 400, dr := noDr }
noncomputable def w_markPuzzle (a0_Clues : List (Int × Int × Int)) (k1 : Int) : (Int × List (Int × Int × Int)) :=
  (markGK nxClue a0_Clues k1, markGL mkClue nxClue a0_Clues k1)
theorem w_markPuzzle_e (a0_Clues : List (Int × Int × Int)) (k1 : Int) : c_w_markPuzzle.start c_w_markPuzzle.L (a0_Clues, k1, ()) = some (w_markPuzzle a0_Clues k1) := by kernel_rfl
noncomputable def F_w_markPuzzle : Ins c_w_markPuzzle.ins → (Int × List (Int × Int × Int)) := fun x => w_markPuzzle x.1 x.2.1
noncomputable def S_w_markPuzzle : FSpec := mkT c_w_markPuzzle.env.pre c_w_markPuzzle.ins c_w_markPuzzle.out c_w_markPuzzle.inj F_w_markPuzzle
theorem h_w_markPuzzle : Cert Try.prog 37 S_w_markPuzzle := FnCx.certT (c := c_w_markPuzzle) F_w_markPuzzle (tyOk _ _ _) (spOk ⟨h_w_markClueS, fun _ _ _ => trivial, trivial⟩) (fun _ _ _ _ _ hs => noDr_ok) Try.func37 rfl rfl Try.ntmps37 (by kernel_rfl) rfl rfl (fun _ => rfl) trivial (fun x => .inl ⟨c_w_markPuzzle.start () x, fun _ => rfl⟩) (fun x hb => by
  obtain ⟨a0_Clues, k1, _⟩ := x
  exact w_markPuzzle_e a0_Clues k1)
/-! laws.heldClueS -/
noncomputable def c_w_heldClueS : FnCx := { env := env 40 [] [], body := bodyOf Try.f121, res := [.tmp 4], ins := [.ro kSClue, .ro kint], out := [(kint, true)], T := Int, fin := fun r => r.1.1, inj := fun t => ((t, ()), ((), (), ())), pts := [([.inLoop [1, 0, 1, 0, 0], .inBlock 0, .code [1, 1]], Shape.mk [Bs.row kwClue 25 false] [(0, Ss.one (Cs.sl 0)), (1, Ss.one (Cs.sc kint)), (5, Ss.one (Cs.sc kint))] [Ss.one (Cs.any), Ss.one (Cs.any)])], fuel := 400, dr := noDr }
noncomputable def w_heldClueS_t1 (g1 : List (Int × (Int × Int)) → Int → Int → Option (Int)) (r0 : List (Int × (Int × Int))) (k1 : Int) (i5 : Int) : Option Int :=
  bif decide (i5 < (↑(List.length r0) : Int)) then
    bif decide (0 ≤ i5) then
      bif decide (i5 < (↑(List.length r0) : Int)) then
        bif Prod.fst (rdk kwClue r0 i5) != k1 then some (-1)
        else
          bif decide (0 ≤ i5) then
            bif decide (i5 < (↑(List.length r0) : Int)) then
              bif
                  Prod.fst (Prod.snd (rdk kwClue r0 i5)) !=
                    IntKind.wrap IntKind.i64 (k1 + 1) then
                some (-1)
              else
                bif decide (0 ≤ i5) then
                  bif decide (i5 < (↑(List.length r0) : Int)) then
                    bif
                        Prod.snd (Prod.snd (rdk kwClue r0 i5)) !=
                          IntKind.wrap IntKind.i64 (IntKind.wrap IntKind.i64 (k1 + 1) + 1) then
                      some (-1)
                    else
                      g1 r0 (IntKind.wrap IntKind.i64 (IntKind.wrap IntKind.i64 (IntKind.wrap IntKind.i64 (k1 + 1) + 1) + 1)) (IntKind.wrap IntKind.i64 (i5 + 1))
                  else none
                else none
            else none
          else none
      else none
    else none
  else some k1
noncomputable def w_heldClueS_t0 (g1 : List (Int × (Int × Int)) → Int → Int → Option (Int)) (a0 : List (Int × Int × Int)) (k1 : Int) : Option Int :=
  g1 a0 k1 0
theorem w_heldClueS_ts : Tails c_w_heldClueS.pts c_w_heldClueS.round :=
  ⟨fun s => by
    obtain ⟨⟨r0, _⟩, ⟨_, k1, i5, _⟩, ⟨_, _, _⟩⟩ := s
    refine Tail.eq (Y := fun g => w_heldClueS_t1 (fun r0 k1 i5 => g.1 ((r0, ()), ((), k1, i5, ()), ((), (), ()))) r0 k1 i5) ?_ (fun g => by kernel_rfl)
    simp only [w_heldClueS_t1]; repeat (first | exact Tail.const _ | exact Tail.here _ | exact Tail.there (Tail.here _) | exact Tail.there (Tail.there (Tail.here _)) | exact Tail.there (Tail.there (Tail.there (Tail.here _))) | exact Tail.there (Tail.there (Tail.there (Tail.there (Tail.here _)))) | exact Tail.there (Tail.there (Tail.there (Tail.there (Tail.there (Tail.here _))))) | apply Tail.cond | (apply Tail.bind; intro _)), trivial⟩
theorem w_heldClueS_hs : ∀ x, Tail c_w_heldClueS.pts (fun g => c_w_heldClueS.start g x) := fun x => by
    obtain ⟨a0, k1, _⟩ := x
    refine Tail.eq (Y := fun g => w_heldClueS_t0 (fun r0 k1 i5 => g.1 ((r0, ()), ((), k1, i5, ()), ((), (), ()))) a0 k1) ?_ (fun g => by kernel_rfl)
    simp only [w_heldClueS_t0]; repeat (first | exact Tail.const _ | exact Tail.here _ | exact Tail.there (Tail.here _) | exact Tail.there (Tail.there (Tail.here _)) | exact Tail.there (Tail.there (Tail.there (Tail.here _))) | exact Tail.there (Tail.there (Tail.there (Tail.there (Tail.here _)))) | exact Tail.there (Tail.there (Tail.there (Tail.there (Tail.there (Tail.here _))))) | apply Tail.cond | (apply Tail.bind; intro _))
noncomputable def w_heldClueS_L1 (r0 : List (Int × (Int × Int))) (k1 : Int) (i5 : Int) : Option Int := c_w_heldClueS.L.1 ((r0, ()), ((), k1, i5, ()), ((), (), ()))
theorem w_heldClueS_u1 (r0 : List (Int × (Int × Int))) (k1 : Int) (i5 : Int) : w_heldClueS_L1 r0 k1 i5 = w_heldClueS_t1 w_heldClueS_L1 r0 k1 i5 :=
  (congrArg (fun g => g.1 ((r0, ()), ((), k1, i5, ()), ((), (), ()))) (FnCx.L_eq w_heldClueS_ts)).trans (by kernel_rfl)
noncomputable def w_heldClueS (a0 : List (Int × Int × Int)) (k1 : Int) : Option Int := w_heldClueS_t0 w_heldClueS_L1 a0 k1
theorem w_heldClueS_e (a0 : List (Int × Int × Int)) (k1 : Int) : c_w_heldClueS.start c_w_heldClueS.L (a0, k1, ()) = w_heldClueS a0 k1 := by kernel_rfl
-- NICE tot
def ckClue (x : Int × Int × Int) (k : Int) : Bool := x.1 == k && (x.2.1 == IntKind.wrap .i64 (k + 1) && x.2.2 == IntKind.wrap .i64 (IntKind.wrap .i64 (k + 1) + 1))
theorem ckClue_mk (k : Int) : ckClue (mkClue k) k = true := by simp [ckClue, mkClue]
noncomputable def w_heldClueS_n (a : List (Int × Int × Int)) (k : Int) : Int := heldGL ckClue nxClue a k
theorem w_heldClueS_ok (a : List (Int × Int × Int)) (k : Int) (hb : BdI c_w_heldClueS.ins (a, k, ())) : w_heldClueS a k = some (w_heldClueS_n a k) :=
  have hm : a.length ≤ maxLen := hb.1.1
  loop_heldG (ck := ckClue) (nx := nxClue) (L := fun i k => w_heldClueS_L1 a k (i : Int)) (l := a)
    (fun i h k => by
      simp only [w_heldClueS_u1 a k i, w_heldClueS_t1, rdk_get (k := kClue) h, wrapS h hm, ckClue, nxClue, bne]
      cases h1 : a[i].1 == k <;> cases h2 : a[i].2.1 == IntKind.wrap .i64 (k + 1) <;> cases h3 : a[i].2.2 == IntKind.wrap .i64 (IntKind.wrap .i64 (k + 1) + 1) <;> simp [h]) (fun k => by simp [w_heldClueS_u1 a k a.length, w_heldClueS_t1]) k
noncomputable def F_w_heldClueS : Ins c_w_heldClueS.ins → Int := fun x => w_heldClueS_n x.1 x.2.1
noncomputable def S_w_heldClueS : FSpec := mkT c_w_heldClueS.env.pre c_w_heldClueS.ins c_w_heldClueS.out c_w_heldClueS.inj F_w_heldClueS
theorem h_w_heldClueS : Cert Try.prog 121 S_w_heldClueS := FnCx.certT (c := c_w_heldClueS) F_w_heldClueS (tyOk _ _ _) (spOk trivial) (fun _ _ _ _ _ hs => noDr_ok) Try.func121 rfl rfl Try.ntmps121 (by kernel_rfl) rfl rfl (fun _ => rfl) w_heldClueS_ts w_heldClueS_hs (fun x hb => by
  obtain ⟨a0, k1, _⟩ := x
  exact (w_heldClueS_e a0 k1).trans (w_heldClueS_ok a0 k1 hb))
/-! laws.heldPuzzle -/
noncomputable def c_w_heldPuzzle : FnCx := { env := env 12 [(121, S_w_heldClueS)] [], body := bodyOf Try.f38, res := [.tmp 4], ins := [.ro kPuzzle, .ro kint], out := [(kint, true)], T := Int, fin := fun r => r.1.1, inj := fun t => ((t, ()), ((), (), ())), pts := [], fuel := 400, dr := noDr }
noncomputable def w_heldPuzzle (a0_Clues : List (Int × Int × Int)) (k1 : Int) : Int :=
  bif decide (w_heldClueS_n a0_Clues k1 < 0) then -1 else w_heldClueS_n a0_Clues k1
theorem w_heldPuzzle_e (a0_Clues : List (Int × Int × Int)) (k1 : Int) : c_w_heldPuzzle.start c_w_heldPuzzle.L (a0_Clues, k1, ()) = some (w_heldPuzzle a0_Clues k1) := by
  refine Eq.trans (b := (bif decide (w_heldClueS_n a0_Clues k1 < 0) then some (-1) else some (w_heldClueS_n a0_Clues k1) : Option Int)) (by kernel_rfl) ?_
  unfold w_heldPuzzle
  repeat (first | rfl | apply condS)
/-- a puzzle of any size, marked: what is held is what was marked -/
theorem heldPuzzle_eq (a : List (Int × Int × Int)) (h : a.length ≤ 1000000000000) : decide (markGK nxClue a 1 < 0) = false ∧ w_heldPuzzle (markGL mkClue nxClue a 1) 1 = markGK nxClue a 1 := by
  have e1 : markGK nxClue a 1 = 1 + (3 : Nat) * a.length := markGK_eq nxClue_eq a 1 (by omega) (by omega)
  have h1 : ¬ (1 + ((3 : Nat) : Int) * a.length < 0) := by omega
  constructor
  · rw [e1]; simpa using h1
  · unfold w_heldPuzzle w_heldClueS_n
    rw [heldG_mark ckClue_mk, e1]
    rw [decide_eq_false h1]
    rfl
noncomputable def F_w_heldPuzzle : Ins c_w_heldPuzzle.ins → Int := fun x => w_heldPuzzle x.1 x.2.1
noncomputable def S_w_heldPuzzle : FSpec := mkT c_w_heldPuzzle.env.pre c_w_heldPuzzle.ins c_w_heldPuzzle.out c_w_heldPuzzle.inj F_w_heldPuzzle
theorem h_w_heldPuzzle : Cert Try.prog 38 S_w_heldPuzzle := FnCx.certT (c := c_w_heldPuzzle) F_w_heldPuzzle (tyOk _ _ _) (spOk ⟨h_w_heldClueS, fun _ _ _ => trivial, trivial⟩) (fun _ _ _ _ _ hs => noDr_ok) Try.func38 rfl rfl Try.ntmps38 (by kernel_rfl) rfl rfl (fun _ => rfl) trivial (fun x => .inl ⟨c_w_heldPuzzle.start () x, fun _ => rfl⟩) (fun x hb => by
  obtain ⟨a0_Clues, k1, _⟩ := x
  exact w_heldPuzzle_e a0_Clues k1)
/-! laws.FnExactAddClue -/
noncomputable def c_w_FnExactAddClue : FnCx := { env := env 104 [(23, S_w_szPuzzle), (25, S_w_toPuzzle), (16, S_w_toClue), (35, S_s_AddClue), (36, S_i_AddClue), (27, S_w_eqPuzzle), (37, S_w_markPuzzle), (38, S_w_heldPuzzle)] [], body := bodyOf Try.f7, res := [.tmp 4], ins := [.ro kwPuzzle, .ro kwClue], out := [(kbool, true)], T := Bool, fin := fun r => r.1.1, inj := fun t => ((t, ()), ((), (), ())), pts := [], fuel := 400, dr := evDr (env 104 [(23, S_w_szPuzzle), (25, S_w_toPuzzle), (16, S_w_toClue), (35, S_s_AddClue), (36, S_i_AddClue), (27, S_w_eqPuzzle), (37, S_w_markPuzzle), (38, S_w_heldPuzzle)] []) }
noncomputable def w_FnExactAddClue (x0_Clues : List (Int × Int × Int)) (x1_Kind : Int) (x1_A : Int) (x1_B : Int) : Option Bool :=
  bif decide (w_szPuzzle x0_Clues 1048576 < 0) then some true
  else
    Option.bind (w_toPuzzle x0_Clues) fun r =>
      Option.bind (w_toPuzzle x0_Clues) fun r_1 =>
        bif !w_eqPuzzle (Prod.fst (i_AddClue_n r_1 x1_Kind x1_A x1_B)) (Prod.fst (s_AddClue_n r x1_Kind x1_A x1_B)) then some false
        else
          bif !Prod.snd (i_AddClue_n r_1 x1_Kind x1_A x1_B) == Prod.snd (s_AddClue_n r x1_Kind x1_A x1_B) then some false
          else
            Option.bind (w_toPuzzle x0_Clues) fun r_2 =>
              bif !w_eqPuzzle r_1 r_2 then some false
              else
                bif decide (markGK nxClue r_1 1 < 0) then some false
                else
                  bif !w_eqPuzzle (Prod.fst (i_AddClue_n r_1 x1_Kind x1_A x1_B)) (Prod.fst (s_AddClue_n r x1_Kind x1_A x1_B)) then some false
                  else
                    bif !Prod.snd (i_AddClue_n r_1 x1_Kind x1_A x1_B) == Prod.snd (s_AddClue_n r x1_Kind x1_A x1_B) then some false
                    else
                      bif decide (w_heldPuzzle (markGL mkClue nxClue (Prod.fst (i_AddClue_n r_1 x1_Kind x1_A x1_B)) 1) 1 < 0) then some false
                      else
                        bif
                            w_heldPuzzle (markGL mkClue nxClue (Prod.fst (i_AddClue_n r_1 x1_Kind x1_A x1_B)) 1) 1 !=
                              markGK nxClue (Prod.fst (i_AddClue_n r_1 x1_Kind x1_A x1_B)) 1 then
                          some false
                        else
                          Option.bind (w_toPuzzle x0_Clues) fun r_3 =>
                            bif !w_eqPuzzle (Prod.fst (i_AddClue_n r_3 x1_Kind x1_A x1_B)) (Prod.fst (s_AddClue_n r x1_Kind x1_A x1_B)) then some false
                            else
                              bif !Prod.snd (i_AddClue_n r_3 x1_Kind x1_A x1_B) == Prod.snd (s_AddClue_n r x1_Kind x1_A x1_B) then some false
                              else
                                bif decide (w_heldPuzzle (markGL mkClue nxClue (Prod.fst (i_AddClue_n r_1 x1_Kind x1_A x1_B)) 1) 1 < 0) then some false
                                else
                                  bif
                                      w_heldPuzzle (markGL mkClue nxClue (Prod.fst (i_AddClue_n r_1 x1_Kind x1_A x1_B)) 1) 1 !=
                                        markGK nxClue (Prod.fst (i_AddClue_n r_1 x1_Kind x1_A x1_B)) 1 then
                                    some false
                                  else some true
theorem w_FnExactAddClue_e (x0_Clues : List (Int × Int × Int)) (x1_Kind : Int) (x1_A : Int) (x1_B : Int) : c_w_FnExactAddClue.start c_w_FnExactAddClue.L (x0_Clues, (x1_Kind, x1_A, x1_B), ()) = w_FnExactAddClue x0_Clues x1_Kind x1_A x1_B := by kernel_rfl
noncomputable def F_w_FnExactAddClue : Ins c_w_FnExactAddClue.ins → Option Bool := fun x => w_FnExactAddClue x.1 x.2.1.1 x.2.1.2.1 x.2.1.2.2
noncomputable def S_w_FnExactAddClue : FSpec := mkF c_w_FnExactAddClue.env.pre c_w_FnExactAddClue.ins c_w_FnExactAddClue.out c_w_FnExactAddClue.inj F_w_FnExactAddClue
theorem h_w_FnExactAddClue : Cert Try.prog 7 S_w_FnExactAddClue := FnCx.certF (c := c_w_FnExactAddClue) F_w_FnExactAddClue (tyOk _ _ _) (spOk ⟨h_w_szPuzzle, fun _ _ _ => trivial, ⟨h_w_toPuzzle, fun _ _ _ => trivial, ⟨h_w_toClue, fun _ _ _ => trivial, ⟨h_s_AddClue, fun _ _ _ => trivial, ⟨h_i_AddClue, fun _ _ _ => trivial, ⟨h_w_eqPuzzle, fun _ _ _ => trivial, ⟨h_w_markPuzzle, fun _ _ _ => trivial, ⟨h_w_heldPuzzle, fun _ _ _ => trivial, trivial⟩⟩⟩⟩⟩⟩⟩⟩) (fun _ _ _ _ _ hs => evDr_ok (tyOk _ _ _) hs follows) Try.func7 rfl rfl Try.ntmps7 (by kernel_rfl) rfl rfl (fun _ => rfl) trivial (fun x => .inl ⟨c_w_FnExactAddClue.start () x, fun _ => rfl⟩) (fun x t hb ht => by
  obtain ⟨x0_Clues, ⟨x1_Kind, x1_A, x1_B⟩, _⟩ := x
  exact (w_FnExactAddClue_e x0_Clues x1_Kind x1_A x1_B).trans ht)
/-! laws.szDesk -/
noncomputable def c_w_szDesk : FnCx := { env := env 18 [(28, S_w_szStairs), (112, S_w_szIntS)] [], body := bodyOf Try.f41, res := [.tmp 4], ins := [.ro kwDesk, .ro kint], out := [(kint, true)], T := Int, fin := fun r => r.1.1, inj := fun t => ((t, ()), ((), (), ())), pts := [], fuel := 400, dr := noDr }
noncomputable def w_szDesk (a0_Stairs_Steps : Int) (a0_Stairs_Strides : List Int) (a0_Stairs_Broken : List Int) (a0_Moving_Visible : Int) (a0_Moving_Speed : Int) (a0_Flight_Risers : Int) (a0_Flight_Rise : Int) (a0_Flight_Tread : Int) (a0_Jumps : List Int) (left1 : Int) : Int :=
  bif decide (w_szStairs a0_Stairs_Steps a0_Stairs_Strides a0_Stairs_Broken left1 < 0) then -1
  else
    bif decide (w_szIntS a0_Jumps (w_szStairs a0_Stairs_Steps a0_Stairs_Strides a0_Stairs_Broken left1) < 0) then -1
    else w_szIntS a0_Jumps (w_szStairs a0_Stairs_Steps a0_Stairs_Strides a0_Stairs_Broken left1)
theorem w_szDesk_e (a0_Stairs_Steps : Int) (a0_Stairs_Strides : List Int) (a0_Stairs_Broken : List Int) (a0_Moving_Visible : Int) (a0_Moving_Speed : Int) (a0_Flight_Risers : Int) (a0_Flight_Rise : Int) (a0_Flight_Tread : Int) (a0_Jumps : List Int) (left1 : Int) : c_w_szDesk.start c_w_szDesk.L (((a0_Stairs_Steps, a0_Stairs_Strides, a0_Stairs_Broken), (a0_Moving_Visible, a0_Moving_Speed), (a0_Flight_Risers, a0_Flight_Rise, a0_Flight_Tread), a0_Jumps), left1, ()) = some (w_szDesk a0_Stairs_Steps a0_Stairs_Strides a0_Stairs_Broken a0_Moving_Visible a0_Moving_Speed a0_Flight_Risers a0_Flight_Rise a0_Flight_Tread a0_Jumps left1) := by
  refine Eq.trans (b := (bif decide (w_szStairs a0_Stairs_Steps a0_Stairs_Strides a0_Stairs_Broken left1 < 0) then some (-1) else bif decide (w_szIntS a0_Jumps (w_szStairs a0_Stairs_Steps a0_Stairs_Strides a0_Stairs_Broken left1) < 0) then some (-1) else some (w_szIntS a0_Jumps (w_szStairs a0_Stairs_Steps a0_Stairs_Strides a0_Stairs_Broken left1)) : Option Int)) (by kernel_rfl) ?_
  unfold w_szDesk
  repeat (first | rfl | apply condS)
noncomputable def F_w_szDesk : Ins c_w_szDesk.ins → Int := fun x => w_szDesk x.1.1.1 x.1.1.2.1 x.1.1.2.2 x.1.2.1.1 x.1.2.1.2 x.1.2.2.1.1 x.1.2.2.1.2.1 x.1.2.2.1.2.2 x.1.2.2.2 x.2.1
noncomputable def S_w_szDesk : FSpec := mkT c_w_szDesk.env.pre c_w_szDesk.ins c_w_szDesk.out c_w_szDesk.inj F_w_szDesk
theorem h_w_szDesk : Cert Try.prog 41 S_w_szDesk := FnCx.certT (c := c_w_szDesk) F_w_szDesk (tyOk _ _ _) (spOk ⟨h_w_szStairs, fun _ _ _ => trivial, ⟨h_w_szIntS, fun _ _ _ => trivial, trivial⟩⟩) (fun _ _ _ _ _ hs => noDr_ok) Try.func41 rfl rfl Try.ntmps41 (by kernel_rfl) rfl rfl (fun _ => rfl) trivial (fun x => .inl ⟨c_w_szDesk.start () x, fun _ => rfl⟩) (fun x hb => by
  obtain ⟨⟨⟨a0_Stairs_Steps, a0_Stairs_Strides, a0_Stairs_Broken⟩, ⟨a0_Moving_Visible, a0_Moving_Speed⟩, ⟨a0_Flight_Risers, a0_Flight_Rise, a0_Flight_Tread⟩, a0_Jumps⟩, left1, _⟩ := x
  exact w_szDesk_e a0_Stairs_Steps a0_Stairs_Strides a0_Stairs_Broken a0_Moving_Visible a0_Moving_Speed a0_Flight_Risers a0_Flight_Rise a0_Flight_Tread a0_Jumps left1)
/-! laws.toMoving -/
noncomputable def c_w_toMoving : FnCx := { env := env 11 [] [], body := bodyOf Try.f127, res := [.cell 2 32], ins := [.ro kwMoving], out := [(kMoving, true)], T := (Int × Int), fin := fun r => r.1.1, inj := fun t => ((t, ()), ((), ())), pts := [], fuel := 400, dr := noDr }
noncomputable def w_toMoving (a0_Visible : Int) (a0_Speed : Int) : (Int × Int) :=
  (a0_Visible, a0_Speed)
theorem w_toMoving_e (a0_Visible : Int) (a0_Speed : Int) : c_w_toMoving.start c_w_toMoving.L ((a0_Visible, a0_Speed), ()) = some (w_toMoving a0_Visible a0_Speed) := by kernel_rfl
noncomputable def F_w_toMoving : Ins c_w_toMoving.ins → (Int × Int) := fun x => w_toMoving x.1.1 x.1.2
noncomputable def S_w_toMoving : FSpec := mkT c_w_toMoving.env.pre c_w_toMoving.ins c_w_toMoving.out c_w_toMoving.inj F_w_toMoving
theorem h_w_toMoving : Cert Try.prog 127 S_w_toMoving := FnCx.certT (c := c_w_toMoving) F_w_toMoving (tyOk _ _ _) (spOk trivial) (fun _ _ _ _ _ hs => noDr_ok) Try.func127 rfl rfl Try.ntmps127 (by kernel_rfl) rfl rfl (fun _ => rfl) trivial (fun x => .inl ⟨c_w_toMoving.start () x, fun _ => rfl⟩) (fun x hb => by
  obtain ⟨⟨a0_Visible, a0_Speed⟩, _⟩ := x
  exact w_toMoving_e a0_Visible a0_Speed)
/-! laws.toFlight -/
noncomputable def c_w_toFlight : FnCx := { env := env 14 [] [], body := bodyOf Try.f128, res := [.cell 2 34], ins := [.ro kwFlight], out := [(kFlight, true)], T := (Int × Int × Int), fin := fun r => r.1.1, inj := fun t => ((t, ()), ((), ())), pts := [], fuel := 400, dr := noDr }
noncomputable def w_toFlight (a0_Risers : Int) (a0_Rise : Int) (a0_Tread : Int) : (Int × Int × Int) :=
  (a0_Risers, a0_Rise, a0_Tread)
theorem w_toFlight_e (a0_Risers : Int) (a0_Rise : Int) (a0_Tread : Int) : c_w_toFlight.start c_w_toFlight.L ((a0_Risers, a0_Rise, a0_Tread), ()) = some (w_toFlight a0_Risers a0_Rise a0_Tread) := by kernel_rfl
noncomputable def F_w_toFlight : Ins c_w_toFlight.ins → (Int × Int × Int) := fun x => w_toFlight x.1.1 x.1.2.1 x.1.2.2
noncomputable def S_w_toFlight : FSpec := mkT c_w_toFlight.env.pre c_w_toFlight.ins c_w_toFlight.out c_w_toFlight.inj F_w_toFlight
theorem h_w_toFlight : Cert Try.prog 128 S_w_toFlight := FnCx.certT (c := c_w_toFlight) F_w_toFlight (tyOk _ _ _) (spOk trivial) (fun _ _ _ _ _ hs => noDr_ok) Try.func128 rfl rfl Try.ntmps128 (by kernel_rfl) rfl rfl (fun _ => rfl) trivial (fun x => .inl ⟨c_w_toFlight.start () x, fun _ => rfl⟩) (fun x hb => by
  obtain ⟨⟨a0_Risers, a0_Rise, a0_Tread⟩, _⟩ := x
  exact w_toFlight_e a0_Risers a0_Rise a0_Tread)
/-! laws.toDesk -/
noncomputable def c_w_toDesk : FnCx := { env := env 21 [(30, S_w_toStairs), (127, S_w_toMoving), (128, S_w_toFlight), (115, S_w_toIntS)] [], body := bodyOf Try.f43, res := [.cell 2 36], ins := [.ro kwDesk], out := [(kDesk, true)], T := ((Int × List Int × List Int) × (Int × Int) × (Int × Int × Int) × List Int), fin := fun r => r.1.1, inj := fun t => ((t, ()), ((), ())), pts := [], fuel := 400, dr := noDr }
noncomputable def w_toDesk (a0_Stairs_Steps : Int) (a0_Stairs_Strides : List Int) (a0_Stairs_Broken : List Int) (a0_Moving_Visible : Int) (a0_Moving_Speed : Int) (a0_Flight_Risers : Int) (a0_Flight_Rise : Int) (a0_Flight_Tread : Int) (a0_Jumps : List Int) : Option (((Int × List Int × List Int) × (Int × Int) × (Int × Int × Int) × List Int)) :=
  Option.bind (w_toStairs a0_Stairs_Steps a0_Stairs_Strides a0_Stairs_Broken) fun r =>
    Option.bind (w_toIntS_n a0_Jumps) fun r_1 =>
      some
        ((Prod.fst r, Prod.fst (Prod.snd r), Prod.snd (Prod.snd r)), (a0_Moving_Visible, a0_Moving_Speed), (a0_Flight_Risers, a0_Flight_Rise, a0_Flight_Tread),
          r_1)
theorem w_toDesk_e (a0_Stairs_Steps : Int) (a0_Stairs_Strides : List Int) (a0_Stairs_Broken : List Int) (a0_Moving_Visible : Int) (a0_Moving_Speed : Int) (a0_Flight_Risers : Int) (a0_Flight_Rise : Int) (a0_Flight_Tread : Int) (a0_Jumps : List Int) : c_w_toDesk.start c_w_toDesk.L (((a0_Stairs_Steps, a0_Stairs_Strides, a0_Stairs_Broken), (a0_Moving_Visible, a0_Moving_Speed), (a0_Flight_Risers, a0_Flight_Rise, a0_Flight_Tread), a0_Jumps), ()) = w_toDesk a0_Stairs_Steps a0_Stairs_Strides a0_Stairs_Broken a0_Moving_Visible a0_Moving_Speed a0_Flight_Risers a0_Flight_Rise a0_Flight_Tread a0_Jumps := by kernel_rfl
noncomputable def F_w_toDesk : Ins c_w_toDesk.ins → Option (((Int × List Int × List Int) × (Int × Int) × (Int × Int × Int) × List Int)) := fun x => w_toDesk x.1.1.1 x.1.1.2.1 x.1.1.2.2 x.1.2.1.1 x.1.2.1.2 x.1.2.2.1.1 x.1.2.2.1.2.1 x.1.2.2.1.2.2 x.1.2.2.2
noncomputable def S_w_toDesk : FSpec := mkF c_w_toDesk.env.pre c_w_toDesk.ins c_w_toDesk.out c_w_toDesk.inj F_w_toDesk
theorem h_w_toDesk : Cert Try.prog 43 S_w_toDesk := FnCx.certF (c := c_w_toDesk) F_w_toDesk (tyOk _ _ _) (spOk ⟨h_w_toStairs, fun _ _ _ => trivial, ⟨h_w_toMoving, fun _ _ _ => trivial, ⟨h_w_toFlight, fun _ _ _ => trivial, ⟨h_w_toIntS, fun _ _ _ => trivial, trivial⟩⟩⟩⟩) (fun _ _ _ _ _ hs => noDr_ok) Try.func43 rfl rfl Try.ntmps43 (by kernel_rfl) rfl rfl (fun _ => rfl) trivial (fun x => .inl ⟨c_w_toDesk.start () x, fun _ => rfl⟩) (fun x t hb ht => by
  obtain ⟨⟨⟨a0_Stairs_Steps, a0_Stairs_Strides, a0_Stairs_Broken⟩, ⟨a0_Moving_Visible, a0_Moving_Speed⟩, ⟨a0_Flight_Risers, a0_Flight_Rise, a0_Flight_Tread⟩, a0_Jumps⟩, _⟩ := x
  exact (w_toDesk_e a0_Stairs_Steps a0_Stairs_Strides a0_Stairs_Broken a0_Moving_Visible a0_Moving_Speed a0_Flight_Risers a0_Flight_Rise a0_Flight_Tread a0_Jumps).trans ht)
/-! spec.moGood -/
noncomputable def c_s_moGood : FnCx := { env := env 11 [(132, S_s_l1In)] [], body := bodyOf Try.f178, res := [.tmp 2], ins := [.ro kMoving], out := [(kbool, true)], T := Bool, fin := fun r => r.1.1, inj := fun t => ((t, ()), ((), ())), pts := [], fuel := 400, dr := noDr }
noncomputable def s_moGood (m0_Visible : Int) (m0_Speed : Int) : Bool :=
  bif s_l1In m0_Visible 1 500 then s_l1In m0_Speed 0 20 else false
theorem s_moGood_e (m0_Visible : Int) (m0_Speed : Int) : c_s_moGood.start c_s_moGood.L ((m0_Visible, m0_Speed), ()) = some (s_moGood m0_Visible m0_Speed) := by
  refine Eq.trans (b := (bif s_l1In m0_Visible 1 500 then some (s_l1In m0_Speed 0 20) else some false : Option Bool)) (by kernel_rfl) ?_
  unfold s_moGood
  repeat (first | rfl | apply condS)
noncomputable def F_s_moGood : Ins c_s_moGood.ins → Bool := fun x => s_moGood x.1.1 x.1.2
noncomputable def S_s_moGood : FSpec := mkT c_s_moGood.env.pre c_s_moGood.ins c_s_moGood.out c_s_moGood.inj F_s_moGood
theorem h_s_moGood : Cert Try.prog 178 S_s_moGood := FnCx.certT (c := c_s_moGood) F_s_moGood (tyOk _ _ _) (spOk ⟨h_s_l1In, fun _ _ _ => trivial, trivial⟩) (fun _ _ _ _ _ hs => noDr_ok) Try.func178 rfl rfl Try.ntmps178 (by kernel_rfl) rfl rfl (fun _ => rfl) trivial (fun x => .inl ⟨c_s_moGood.start () x, fun _ => rfl⟩) (fun x hb => by
  obtain ⟨⟨m0_Visible, m0_Speed⟩, _⟩ := x
  exact s_moGood_e m0_Visible m0_Speed)
/-! spec.riGood -/
noncomputable def c_s_riGood : FnCx := { env := env 16 [(132, S_s_l1In)] [], body := bodyOf Try.f159, res := [.tmp 2], ins := [.ro kFlight], out := [(kbool, true)], T := Bool, fin := fun r => r.1.1, inj := fun t => ((t, ()), ((), ())), pts := [], fuel := 400, dr := noDr }
noncomputable def s_riGood (f0_Risers : Int) (f0_Rise : Int) (f0_Tread : Int) : Bool :=
  bif s_l1In f0_Risers 1 100 then bif s_l1In f0_Rise 1 250 then s_l1In f0_Tread 1 500 else false else false
theorem s_riGood_e (f0_Risers : Int) (f0_Rise : Int) (f0_Tread : Int) : c_s_riGood.start c_s_riGood.L ((f0_Risers, f0_Rise, f0_Tread), ()) = some (s_riGood f0_Risers f0_Rise f0_Tread) := by
  refine Eq.trans (b := (bif s_l1In f0_Risers 1 100 then bif s_l1In f0_Rise 1 250 then some (s_l1In f0_Tread 1 500) else some false else some false : Option Bool)) (by kernel_rfl) ?_
  unfold s_riGood
  repeat (first | rfl | apply condS)
noncomputable def F_s_riGood : Ins c_s_riGood.ins → Bool := fun x => s_riGood x.1.1 x.1.2.1 x.1.2.2
noncomputable def S_s_riGood : FSpec := mkT c_s_riGood.env.pre c_s_riGood.ins c_s_riGood.out c_s_riGood.inj F_s_riGood
theorem h_s_riGood : Cert Try.prog 159 S_s_riGood := FnCx.certT (c := c_s_riGood) F_s_riGood (tyOk _ _ _) (spOk ⟨h_s_l1In, fun _ _ _ => trivial, trivial⟩) (fun _ _ _ _ _ hs => noDr_ok) Try.func159 rfl rfl Try.ntmps159 (by kernel_rfl) rfl rfl (fun _ => rfl) trivial (fun x => .inl ⟨c_s_riGood.start () x, fun _ => rfl⟩) (fun x hb => by
  obtain ⟨⟨f0_Risers, f0_Rise, f0_Tread⟩, _⟩ := x
  exact s_riGood_e f0_Risers f0_Rise f0_Tread)
/-! spec.l1All -/
noncomputable def c_s_l1All : FnCx := { env := env 21 [(132, S_s_l1In)] [], body := bodyOf Try.f190, res := [.tmp 6], ins := [.ro kSint, .ro kint, .ro kint], out := [(kbool, true)], T := Bool, fin := fun r => r.1.1, inj := fun t => ((t, ()), ((), (), (), ())), pts := [([.inLoop [1, 0, 1, 0, 0], .inBlock 0, .code [1, 1]], Shape.mk [Bs.row kint 3 false] [(1, Ss.one (Cs.sc kint)), (2, Ss.one (Cs.sc kint)), (9, Ss.one (Cs.sl 0)), (10, Ss.one (Cs.sc kint)), (11, Ss.one (Cs.sc kint))] [Ss.one (Cs.any), Ss.one (Cs.any), Ss.one (Cs.any)])], fuel := 400, dr := noDr }
noncomputable def s_l1All_t1 (g1 : List (Int) → Int → Int → Int → Int → Option (Bool)) (r0 : List (Int)) (lo1 : Int) (hi2 : Int) (s10 : Int) (s11 : Int) : Option Bool :=
  bif decide (s11 < s10) then
    bif decide (0 ≤ s11) then
      bif decide (s11 < (↑(List.length r0) : Int)) then
        bif !s_l1In (rdk kint r0 s11) lo1 hi2 then some false else g1 r0 lo1 hi2 s10 (IntKind.wrap IntKind.i64 (s11 + 1))
      else none
    else none
  else some true
noncomputable def s_l1All_t0 (g1 : List (Int) → Int → Int → Int → Int → Option (Bool)) (l0 : List Int) (lo1 : Int) (hi2 : Int) : Option Bool :=
  g1 l0 lo1 hi2 (↑(List.length l0) : Int) 0
theorem s_l1All_ts : Tails c_s_l1All.pts c_s_l1All.round :=
  ⟨fun s => by
    obtain ⟨⟨r0, _⟩, ⟨lo1, hi2, _, s10, s11, _⟩, ⟨_, _, _, _⟩⟩ := s
    refine Tail.eq (Y := fun g => s_l1All_t1 (fun r0 lo1 hi2 s10 s11 => g.1 ((r0, ()), (lo1, hi2, (), s10, s11, ()), ((), (), (), ()))) r0 lo1 hi2 s10 s11) ?_ (fun g => by kernel_rfl)
    simp only [s_l1All_t1]; repeat (first | exact Tail.const _ | exact Tail.here _ | exact Tail.there (Tail.here _) | exact Tail.there (Tail.there (Tail.here _)) | exact Tail.there (Tail.there (Tail.there (Tail.here _))) | exact Tail.there (Tail.there (Tail.there (Tail.there (Tail.here _)))) | exact Tail.there (Tail.there (Tail.there (Tail.there (Tail.there (Tail.here _))))) | apply Tail.cond | (apply Tail.bind; intro _)), trivial⟩
theorem s_l1All_hs : ∀ x, Tail c_s_l1All.pts (fun g => c_s_l1All.start g x) := fun x => by
    obtain ⟨l0, lo1, hi2, _⟩ := x
    refine Tail.eq (Y := fun g => s_l1All_t0 (fun r0 lo1 hi2 s10 s11 => g.1 ((r0, ()), (lo1, hi2, (), s10, s11, ()), ((), (), (), ()))) l0 lo1 hi2) ?_ (fun g => by kernel_rfl)
    simp only [s_l1All_t0]; repeat (first | exact Tail.const _ | exact Tail.here _ | exact Tail.there (Tail.here _) | exact Tail.there (Tail.there (Tail.here _)) | exact Tail.there (Tail.there (Tail.there (Tail.here _))) | exact Tail.there (Tail.there (Tail.there (Tail.there (Tail.here _)))) | exact Tail.there (Tail.there (Tail.there (Tail.there (Tail.there (Tail.here _))))) | apply Tail.cond | (apply Tail.bind; intro _))
noncomputable def s_l1All_L1 (r0 : List (Int)) (lo1 : Int) (hi2 : Int) (s10 : Int) (s11 : Int) : Option Bool := c_s_l1All.L.1 ((r0, ()), (lo1, hi2, (), s10, s11, ()), ((), (), (), ()))
theorem s_l1All_u1 (r0 : List (Int)) (lo1 : Int) (hi2 : Int) (s10 : Int) (s11 : Int) : s_l1All_L1 r0 lo1 hi2 s10 s11 = s_l1All_t1 s_l1All_L1 r0 lo1 hi2 s10 s11 :=
  (congrArg (fun g => g.1 ((r0, ()), (lo1, hi2, (), s10, s11, ()), ((), (), (), ()))) (FnCx.L_eq s_l1All_ts)).trans (by kernel_rfl)
noncomputable def s_l1All (l0 : List Int) (lo1 : Int) (hi2 : Int) : Option Bool := s_l1All_t0 s_l1All_L1 l0 lo1 hi2
theorem s_l1All_e (l0 : List Int) (lo1 : Int) (hi2 : Int) : c_s_l1All.start c_s_l1All.L (l0, lo1, hi2, ()) = s_l1All l0 lo1 hi2 := by kernel_rfl
-- NICE tot
noncomputable def s_l1All_n (l : List Int) (lo hi : Int) : Bool := l.all (inB lo hi)
theorem s_l1All_ok (l : List Int) (lo hi : Int) (hb : BdI c_s_l1All.ins (l, lo, hi, ())) : s_l1All l lo hi = some (s_l1All_n l lo hi) := by
  have hm : l.length ≤ maxLen := hb.1.1
  have e := loop_any (L := fun i => s_l1All_L1 l lo hi l.length (i : Int)) (l := l) (p := fun x => !inB lo hi x) (a := false) (b := true)
    (fun i h => by simp only [s_l1All_u1 l lo hi l.length i, s_l1All_t1, rdk_get (k := kint) h, wrapS h hm, s_l1In_inB]; simp [h]) (by simp [s_l1All_u1 l lo hi l.length l.length, s_l1All_t1])
  refine Eq.trans e (congrArg some ?_)
  unfold s_l1All_n
  rw [any_not]
noncomputable def F_s_l1All : Ins c_s_l1All.ins → Bool := fun x => s_l1All_n x.1 x.2.1 x.2.2.1
noncomputable def S_s_l1All : FSpec := mkT c_s_l1All.env.pre c_s_l1All.ins c_s_l1All.out c_s_l1All.inj F_s_l1All
theorem h_s_l1All : Cert Try.prog 190 S_s_l1All := FnCx.certT (c := c_s_l1All) F_s_l1All (tyOk _ _ _) (spOk ⟨h_s_l1In, fun _ _ _ => trivial, trivial⟩) (fun _ _ _ _ _ hs => noDr_ok) Try.func190 rfl rfl Try.ntmps190 (by kernel_rfl) rfl rfl (fun _ => rfl) s_l1All_ts s_l1All_hs (fun x hb => by
  obtain ⟨l0, lo1, hi2, _⟩ := x
  exact (s_l1All_e l0 lo1 hi2).trans (s_l1All_ok l0 lo1 hi2 hb))
/-! spec.baGood -/
noncomputable def c_s_baGood : FnCx := { env := env 10 [(132, S_s_l1In), (190, S_s_l1All)] [], body := bodyOf Try.f179, res := [.tmp 2], ins := [.ro kSint], out := [(kbool, true)], T := Bool, fin := fun r => r.1.1, inj := fun t => ((t, ()), ((), ())), pts := [], fuel := 400, dr := noDr }
noncomputable def s_baGood (jumps0 : List Int) : Bool :=
  bif s_l1In (↑(List.length jumps0) : Int) 1 30 then s_l1All_n jumps0 (-30) 30 else false
theorem s_baGood_e (jumps0 : List Int) : c_s_baGood.start c_s_baGood.L (jumps0, ()) = some (s_baGood jumps0) := by
  refine Eq.trans (b := (bif s_l1In (↑(List.length jumps0) : Int) 1 30 then some (s_l1All_n jumps0 (-30) 30) else some false : Option Bool)) (by kernel_rfl) ?_
  unfold s_baGood
  repeat (first | rfl | apply condS)
noncomputable def F_s_baGood : Ins c_s_baGood.ins → Bool := fun x => s_baGood x.1
noncomputable def S_s_baGood : FSpec := mkT c_s_baGood.env.pre c_s_baGood.ins c_s_baGood.out c_s_baGood.inj F_s_baGood
theorem h_s_baGood : Cert Try.prog 179 S_s_baGood := FnCx.certT (c := c_s_baGood) F_s_baGood (tyOk _ _ _) (spOk ⟨h_s_l1In, fun _ _ _ => trivial, ⟨h_s_l1All, fun _ _ _ => trivial, trivial⟩⟩) (fun _ _ _ _ _ hs => noDr_ok) Try.func179 rfl rfl Try.ntmps179 (by kernel_rfl) rfl rfl (fun _ => rfl) trivial (fun x => .inl ⟨c_s_baGood.start () x, fun _ => rfl⟩) (fun x hb => by
  obtain ⟨jumps0, _⟩ := x
  exact s_baGood_e jumps0)
/-! spec.coGood -/
noncomputable def c_s_coGood : FnCx := { env := env 21 [(113, S_s_clGood), (178, S_s_moGood), (159, S_s_riGood), (179, S_s_baGood)] [], body := bodyOf Try.f126, res := [.tmp 2], ins := [.ro kDesk], out := [(kbool, true)], T := Bool, fin := fun r => r.1.1, inj := fun t => ((t, ()), ((), ())), pts := [], fuel := 400, dr := noDr }
noncomputable def s_coGood (d0_Stairs_Steps : Int) (d0_Stairs_Strides : List Int) (d0_Stairs_Broken : List Int) (d0_Moving_Visible : Int) (d0_Moving_Speed : Int) (d0_Flight_Risers : Int) (d0_Flight_Rise : Int) (d0_Flight_Tread : Int) (d0_Jumps : List Int) : Bool :=
  bif s_clGood d0_Stairs_Steps d0_Stairs_Strides d0_Stairs_Broken then
    bif s_moGood d0_Moving_Visible d0_Moving_Speed then bif s_riGood d0_Flight_Risers d0_Flight_Rise d0_Flight_Tread then s_baGood d0_Jumps else false else false
  else false
theorem s_coGood_e (d0_Stairs_Steps : Int) (d0_Stairs_Strides : List Int) (d0_Stairs_Broken : List Int) (d0_Moving_Visible : Int) (d0_Moving_Speed : Int) (d0_Flight_Risers : Int) (d0_Flight_Rise : Int) (d0_Flight_Tread : Int) (d0_Jumps : List Int) : c_s_coGood.start c_s_coGood.L (((d0_Stairs_Steps, d0_Stairs_Strides, d0_Stairs_Broken), (d0_Moving_Visible, d0_Moving_Speed), (d0_Flight_Risers, d0_Flight_Rise, d0_Flight_Tread), d0_Jumps), ()) = some (s_coGood d0_Stairs_Steps d0_Stairs_Strides d0_Stairs_Broken d0_Moving_Visible d0_Moving_Speed d0_Flight_Risers d0_Flight_Rise d0_Flight_Tread d0_Jumps) := by
  refine Eq.trans (b := (bif s_clGood d0_Stairs_Steps d0_Stairs_Strides d0_Stairs_Broken then bif s_moGood d0_Moving_Visible d0_Moving_Speed then bif s_riGood d0_Flight_Risers d0_Flight_Rise d0_Flight_Tread then some (s_baGood d0_Jumps) else some false else some false else some false : Option Bool)) (by kernel_rfl) ?_
  unfold s_coGood
  repeat (first | rfl | apply condS)
noncomputable def F_s_coGood : Ins c_s_coGood.ins → Bool := fun x => s_coGood x.1.1.1 x.1.1.2.1 x.1.1.2.2 x.1.2.1.1 x.1.2.1.2 x.1.2.2.1.1 x.1.2.2.1.2.1 x.1.2.2.1.2.2 x.1.2.2.2
noncomputable def S_s_coGood : FSpec := mkT c_s_coGood.env.pre c_s_coGood.ins c_s_coGood.out c_s_coGood.inj F_s_coGood
theorem h_s_coGood : Cert Try.prog 126 S_s_coGood := FnCx.certT (c := c_s_coGood) F_s_coGood (tyOk _ _ _) (spOk ⟨h_s_clGood, fun _ _ _ => trivial, ⟨h_s_moGood, fun _ _ _ => trivial, ⟨h_s_riGood, fun _ _ _ => trivial, ⟨h_s_baGood, fun _ _ _ => trivial, trivial⟩⟩⟩⟩) (fun _ _ _ _ _ hs => noDr_ok) Try.func126 rfl rfl Try.ntmps126 (by kernel_rfl) rfl rfl (fun _ => rfl) trivial (fun x => .inl ⟨c_s_coGood.start () x, fun _ => rfl⟩) (fun x hb => by
  obtain ⟨⟨⟨d0_Stairs_Steps, d0_Stairs_Strides, d0_Stairs_Broken⟩, ⟨d0_Moving_Visible, d0_Moving_Speed⟩, ⟨d0_Flight_Risers, d0_Flight_Rise, d0_Flight_Tread⟩, d0_Jumps⟩, _⟩ := x
  exact s_coGood_e d0_Stairs_Steps d0_Stairs_Strides d0_Stairs_Broken d0_Moving_Visible d0_Moving_Speed d0_Flight_Risers d0_Flight_Rise d0_Flight_Tread d0_Jumps)
/-! spec.IsDesk -/
noncomputable def c_s_IsDesk : FnCx := { env := env 5 [(126, S_s_coGood)] [], body := bodyOf Try.f42, res := [.tmp 2], ins := [.ro kDesk], out := [(kbool, true)], T := Bool, fin := fun r => r.1.1, inj := fun t => ((t, ()), ((), ())), pts := [], fuel := 400, dr := noDr }
noncomputable def s_IsDesk (d0_Stairs_Steps : Int) (d0_Stairs_Strides : List Int) (d0_Stairs_Broken : List Int) (d0_Moving_Visible : Int) (d0_Moving_Speed : Int) (d0_Flight_Risers : Int) (d0_Flight_Rise : Int) (d0_Flight_Tread : Int) (d0_Jumps : List Int) : Bool :=
  s_coGood d0_Stairs_Steps d0_Stairs_Strides d0_Stairs_Broken d0_Moving_Visible d0_Moving_Speed d0_Flight_Risers d0_Flight_Rise d0_Flight_Tread d0_Jumps
theorem s_IsDesk_e (d0_Stairs_Steps : Int) (d0_Stairs_Strides : List Int) (d0_Stairs_Broken : List Int) (d0_Moving_Visible : Int) (d0_Moving_Speed : Int) (d0_Flight_Risers : Int) (d0_Flight_Rise : Int) (d0_Flight_Tread : Int) (d0_Jumps : List Int) : c_s_IsDesk.start c_s_IsDesk.L (((d0_Stairs_Steps, d0_Stairs_Strides, d0_Stairs_Broken), (d0_Moving_Visible, d0_Moving_Speed), (d0_Flight_Risers, d0_Flight_Rise, d0_Flight_Tread), d0_Jumps), ()) = some (s_IsDesk d0_Stairs_Steps d0_Stairs_Strides d0_Stairs_Broken d0_Moving_Visible d0_Moving_Speed d0_Flight_Risers d0_Flight_Rise d0_Flight_Tread d0_Jumps) := by kernel_rfl
noncomputable def F_s_IsDesk : Ins c_s_IsDesk.ins → Bool := fun x => s_IsDesk x.1.1.1 x.1.1.2.1 x.1.1.2.2 x.1.2.1.1 x.1.2.1.2 x.1.2.2.1.1 x.1.2.2.1.2.1 x.1.2.2.1.2.2 x.1.2.2.2
noncomputable def S_s_IsDesk : FSpec := mkT c_s_IsDesk.env.pre c_s_IsDesk.ins c_s_IsDesk.out c_s_IsDesk.inj F_s_IsDesk
theorem h_s_IsDesk : Cert Try.prog 42 S_s_IsDesk := FnCx.certT (c := c_s_IsDesk) F_s_IsDesk (tyOk _ _ _) (spOk ⟨h_s_coGood, fun _ _ _ => trivial, trivial⟩) (fun _ _ _ _ _ hs => noDr_ok) Try.func42 rfl rfl Try.ntmps42 (by kernel_rfl) rfl rfl (fun _ => rfl) trivial (fun x => .inl ⟨c_s_IsDesk.start () x, fun _ => rfl⟩) (fun x hb => by
  obtain ⟨⟨⟨d0_Stairs_Steps, d0_Stairs_Strides, d0_Stairs_Broken⟩, ⟨d0_Moving_Visible, d0_Moving_Speed⟩, ⟨d0_Flight_Risers, d0_Flight_Rise, d0_Flight_Tread⟩, d0_Jumps⟩, _⟩ := x
  exact s_IsDesk_e d0_Stairs_Steps d0_Stairs_Strides d0_Stairs_Broken d0_Moving_Visible d0_Moving_Speed d0_Flight_Risers d0_Flight_Rise d0_Flight_Tread d0_Jumps)
/-! impl.IsMoving -/
noncomputable def c_i_IsMoving : FnCx := { env := env 11 [(100, S_i_within)] [], body := bodyOf Try.f129, res := [.tmp 2], ins := [.ro kMoving], out := [(kbool, true)], T := Bool, fin := fun r => r.1.1, inj := fun t => ((t, ()), ((), ())), pts := [], fuel := 400, dr := noDr }
noncomputable def i_IsMoving (m0_Visible : Int) (m0_Speed : Int) : Bool :=
  bif i_within m0_Visible 1 500 then i_within m0_Speed 0 20 else false
theorem i_IsMoving_e (m0_Visible : Int) (m0_Speed : Int) : c_i_IsMoving.start c_i_IsMoving.L ((m0_Visible, m0_Speed), ()) = some (i_IsMoving m0_Visible m0_Speed) := by
  refine Eq.trans (b := (bif i_within m0_Visible 1 500 then some (i_within m0_Speed 0 20) else some false : Option Bool)) (by kernel_rfl) ?_
  unfold i_IsMoving
  repeat (first | rfl | apply condS)
noncomputable def F_i_IsMoving : Ins c_i_IsMoving.ins → Bool := fun x => i_IsMoving x.1.1 x.1.2
noncomputable def S_i_IsMoving : FSpec := mkT c_i_IsMoving.env.pre c_i_IsMoving.ins c_i_IsMoving.out c_i_IsMoving.inj F_i_IsMoving
theorem h_i_IsMoving : Cert Try.prog 129 S_i_IsMoving := FnCx.certT (c := c_i_IsMoving) F_i_IsMoving (tyOk _ _ _) (spOk ⟨h_i_within, fun _ _ _ => trivial, trivial⟩) (fun _ _ _ _ _ hs => noDr_ok) Try.func129 rfl rfl Try.ntmps129 (by kernel_rfl) rfl rfl (fun _ => rfl) trivial (fun x => .inl ⟨c_i_IsMoving.start () x, fun _ => rfl⟩) (fun x hb => by
  obtain ⟨⟨m0_Visible, m0_Speed⟩, _⟩ := x
  exact i_IsMoving_e m0_Visible m0_Speed)
/-! impl.IsFlight -/
noncomputable def c_i_IsFlight : FnCx := { env := env 16 [(100, S_i_within)] [], body := bodyOf Try.f130, res := [.tmp 2], ins := [.ro kFlight], out := [(kbool, true)], T := Bool, fin := fun r => r.1.1, inj := fun t => ((t, ()), ((), ())), pts := [], fuel := 400, dr := noDr }
noncomputable def i_IsFlight (f0_Risers : Int) (f0_Rise : Int) (f0_Tread : Int) : Bool :=
  bif i_within f0_Risers 1 100 then bif i_within f0_Rise 1 250 then i_within f0_Tread 1 500 else false else false
theorem i_IsFlight_e (f0_Risers : Int) (f0_Rise : Int) (f0_Tread : Int) : c_i_IsFlight.start c_i_IsFlight.L ((f0_Risers, f0_Rise, f0_Tread), ()) = some (i_IsFlight f0_Risers f0_Rise f0_Tread) := by
  refine Eq.trans (b := (bif i_within f0_Risers 1 100 then bif i_within f0_Rise 1 250 then some (i_within f0_Tread 1 500) else some false else some false : Option Bool)) (by kernel_rfl) ?_
  unfold i_IsFlight
  repeat (first | rfl | apply condS)
noncomputable def F_i_IsFlight : Ins c_i_IsFlight.ins → Bool := fun x => i_IsFlight x.1.1 x.1.2.1 x.1.2.2
noncomputable def S_i_IsFlight : FSpec := mkT c_i_IsFlight.env.pre c_i_IsFlight.ins c_i_IsFlight.out c_i_IsFlight.inj F_i_IsFlight
theorem h_i_IsFlight : Cert Try.prog 130 S_i_IsFlight := FnCx.certT (c := c_i_IsFlight) F_i_IsFlight (tyOk _ _ _) (spOk ⟨h_i_within, fun _ _ _ => trivial, trivial⟩) (fun _ _ _ _ _ hs => noDr_ok) Try.func130 rfl rfl Try.ntmps130 (by kernel_rfl) rfl rfl (fun _ => rfl) trivial (fun x => .inl ⟨c_i_IsFlight.start () x, fun _ => rfl⟩) (fun x hb => by
  obtain ⟨⟨f0_Risers, f0_Rise, f0_Tread⟩, _⟩ := x
  exact i_IsFlight_e f0_Risers f0_Rise f0_Tread)
/-! impl.AreJumps$1 -/
noncomputable def c_i_AreJumps_c1 : FnCx := { env := env 6 [(100, S_i_within)] [], body := bodyOf Try.f181, res := [.tmp 2], ins := [.ro kint], out := [(kbool, true)], T := Bool, fin := fun r => r.1.1, inj := fun t => ((t, ()), ((), ())), pts := [], fuel := 400, dr := noDr }
noncomputable def i_AreJumps_c1 (n0 : Int) : Bool :=
  !i_within n0 (-30) 30
theorem i_AreJumps_c1_e (n0 : Int) : c_i_AreJumps_c1.start c_i_AreJumps_c1.L (n0, ()) = some (i_AreJumps_c1 n0) := by kernel_rfl
noncomputable def F_i_AreJumps_c1 : Ins c_i_AreJumps_c1.ins → Bool := fun x => i_AreJumps_c1 x.1
noncomputable def S_i_AreJumps_c1 : FSpec := mkT c_i_AreJumps_c1.env.pre c_i_AreJumps_c1.ins c_i_AreJumps_c1.out c_i_AreJumps_c1.inj F_i_AreJumps_c1
theorem h_i_AreJumps_c1 : Cert Try.prog 181 S_i_AreJumps_c1 := FnCx.certT (c := c_i_AreJumps_c1) F_i_AreJumps_c1 (tyOk _ _ _) (spOk ⟨h_i_within, fun _ _ _ => trivial, trivial⟩) (fun _ _ _ _ _ hs => noDr_ok) Try.func181 rfl rfl Try.ntmps181 (by kernel_rfl) rfl rfl (fun _ => rfl) trivial (fun x => .inl ⟨c_i_AreJumps_c1.start () x, fun _ => rfl⟩) (fun x hb => by
  obtain ⟨n0, _⟩ := x
  exact i_AreJumps_c1_e n0)
/-! slices.IndexFunc[[]int,int] -/
noncomputable def c_slices_IndexFunc_int__i_AreJumps_c1 : FnCx := { env := env 19 [(181, S_i_AreJumps_c1)] [], body := bodyOf Try.f177, res := [.tmp 4], ins := [.ro kSint, .fn 181 []], out := [(kint, true)], T := Int, fin := fun r => r.1.1, inj := fun t => ((t, ()), ((), (), ())), pts := [([.inLoop [1, 0, 1, 0, 0], .inBlock 0, .code [1, 1]], Shape.mk [Bs.row kint 3 false] [(0, Ss.one (Cs.sl 0)), (1, Ss.fn 181 []), (7, Ss.one (Cs.sc kint)), (8, Ss.one (Cs.sc kint))] [Ss.one (Cs.any), Ss.fn 181 []])], fuel := 400, dr := noDr }
noncomputable def slices_IndexFunc_int__i_AreJumps_c1_t1 (g1 : List (Int) → Int → Int → Option (Int)) (r0 : List (Int)) (s7 : Int) (s8 : Int) : Option Int :=
  bif decide (s8 < s7) then
    bif decide (0 ≤ s8) then
      bif decide (s8 < (↑(List.length r0) : Int)) then
        bif i_AreJumps_c1 (rdk kint r0 s8) then some s8 else g1 r0 s7 (IntKind.wrap IntKind.i64 (s8 + 1))
      else none
    else none
  else some (-1)
noncomputable def slices_IndexFunc_int__i_AreJumps_c1_t0 (g1 : List (Int) → Int → Int → Option (Int)) (s0 : List Int) : Option Int :=
  g1 s0 (↑(List.length s0) : Int) 0
theorem slices_IndexFunc_int__i_AreJumps_c1_ts : Tails c_slices_IndexFunc_int__i_AreJumps_c1.pts c_slices_IndexFunc_int__i_AreJumps_c1.round :=
  ⟨fun s => by
    obtain ⟨⟨r0, _⟩, ⟨_, _, s7, s8, _⟩, ⟨_, _, _⟩⟩ := s
    refine Tail.eq (Y := fun g => slices_IndexFunc_int__i_AreJumps_c1_t1 (fun r0 s7 s8 => g.1 ((r0, ()), ((), (), s7, s8, ()), ((), (), ()))) r0 s7 s8) ?_ (fun g => by kernel_rfl)
    simp only [slices_IndexFunc_int__i_AreJumps_c1_t1]; repeat (first | exact Tail.const _ | exact Tail.here _ | exact Tail.there (Tail.here _) | exact Tail.there (Tail.there (Tail.here _)) | exact Tail.there (Tail.there (Tail.there (Tail.here _))) | exact Tail.there (Tail.there (Tail.there (Tail.there (Tail.here _)))) | exact Tail.there (Tail.there (Tail.there (Tail.there (Tail.there (Tail.here _))))) | apply Tail.cond | (apply Tail.bind; intro _)), trivial⟩
theorem slices_IndexFunc_int__i_AreJumps_c1_hs : ∀ x, Tail c_slices_IndexFunc_int__i_AreJumps_c1.pts (fun g => c_slices_IndexFunc_int__i_AreJumps_c1.start g x) := fun x => by
    obtain ⟨s0, _, _⟩ := x
    refine Tail.eq (Y := fun g => slices_IndexFunc_int__i_AreJumps_c1_t0 (fun r0 s7 s8 => g.1 ((r0, ()), ((), (), s7, s8, ()), ((), (), ()))) s0) ?_ (fun g => by kernel_rfl)
    simp only [slices_IndexFunc_int__i_AreJumps_c1_t0]; repeat (first | exact Tail.const _ | exact Tail.here _ | exact Tail.there (Tail.here _) | exact Tail.there (Tail.there (Tail.here _)) | exact Tail.there (Tail.there (Tail.there (Tail.here _))) | exact Tail.there (Tail.there (Tail.there (Tail.there (Tail.here _)))) | exact Tail.there (Tail.there (Tail.there (Tail.there (Tail.there (Tail.here _))))) | apply Tail.cond | (apply Tail.bind; intro _))
noncomputable def slices_IndexFunc_int__i_AreJumps_c1_L1 (r0 : List (Int)) (s7 : Int) (s8 : Int) : Option Int := c_slices_IndexFunc_int__i_AreJumps_c1.L.1 ((r0, ()), ((), (), s7, s8, ()), ((), (), ()))
theorem slices_IndexFunc_int__i_AreJumps_c1_u1 (r0 : List (Int)) (s7 : Int) (s8 : Int) : slices_IndexFunc_int__i_AreJumps_c1_L1 r0 s7 s8 = slices_IndexFunc_int__i_AreJumps_c1_t1 slices_IndexFunc_int__i_AreJumps_c1_L1 r0 s7 s8 :=
  (congrArg (fun g => g.1 ((r0, ()), ((), (), s7, s8, ()), ((), (), ()))) (FnCx.L_eq slices_IndexFunc_int__i_AreJumps_c1_ts)).trans (by kernel_rfl)
noncomputable def slices_IndexFunc_int__i_AreJumps_c1 (s0 : List Int) : Option Int := slices_IndexFunc_int__i_AreJumps_c1_t0 slices_IndexFunc_int__i_AreJumps_c1_L1 s0
theorem slices_IndexFunc_int__i_AreJumps_c1_e (s0 : List Int) : c_slices_IndexFunc_int__i_AreJumps_c1.start c_slices_IndexFunc_int__i_AreJumps_c1.L (s0, (), ()) = slices_IndexFunc_int__i_AreJumps_c1 s0 := by kernel_rfl
-- NICE tot
noncomputable def slices_IndexFunc_int__i_AreJumps_c1_n (l : List Int) : Int := idxF (fun x => i_AreJumps_c1 x) l 0
theorem slices_IndexFunc_int__i_AreJumps_c1_ok (l : List Int) (hb : BdI c_slices_IndexFunc_int__i_AreJumps_c1.ins (l, (), ())) : slices_IndexFunc_int__i_AreJumps_c1 l = some (slices_IndexFunc_int__i_AreJumps_c1_n l) :=
  have hm : l.length ≤ maxLen := hb.1.1
  loop_idx (L := fun i => slices_IndexFunc_int__i_AreJumps_c1_L1 l l.length (i : Int)) (l := l) (p := fun x => i_AreJumps_c1 x)
    (fun i h => by simp only [slices_IndexFunc_int__i_AreJumps_c1_u1 l l.length i, slices_IndexFunc_int__i_AreJumps_c1_t1, rdk_get (k := kint) h, wrapS h hm]; simp [h]) (by simp [slices_IndexFunc_int__i_AreJumps_c1_u1 l l.length l.length, slices_IndexFunc_int__i_AreJumps_c1_t1])
noncomputable def F_slices_IndexFunc_int__i_AreJumps_c1 : Ins c_slices_IndexFunc_int__i_AreJumps_c1.ins → Int := fun x => slices_IndexFunc_int__i_AreJumps_c1_n x.1
noncomputable def S_slices_IndexFunc_int__i_AreJumps_c1 : FSpec := mkT c_slices_IndexFunc_int__i_AreJumps_c1.env.pre c_slices_IndexFunc_int__i_AreJumps_c1.ins c_slices_IndexFunc_int__i_AreJumps_c1.out c_slices_IndexFunc_int__i_AreJumps_c1.inj F_slices_IndexFunc_int__i_AreJumps_c1
theorem h_slices_IndexFunc_int__i_AreJumps_c1 : Cert Try.prog 177 S_slices_IndexFunc_int__i_AreJumps_c1 := FnCx.certT (c := c_slices_IndexFunc_int__i_AreJumps_c1) F_slices_IndexFunc_int__i_AreJumps_c1 (tyOk _ _ _) (spOk ⟨h_i_AreJumps_c1, fun _ _ _ => trivial, trivial⟩) (fun _ _ _ _ _ hs => noDr_ok) Try.func177 rfl rfl Try.ntmps177 (by kernel_rfl) rfl rfl (fun _ => rfl) slices_IndexFunc_int__i_AreJumps_c1_ts slices_IndexFunc_int__i_AreJumps_c1_hs (fun x hb => by
  obtain ⟨s0, _, _⟩ := x
  exact (slices_IndexFunc_int__i_AreJumps_c1_e s0).trans (slices_IndexFunc_int__i_AreJumps_c1_ok s0 hb))
/-! slices.ContainsFunc[[]int,int] -/
noncomputable def c_slices_ContainsFunc_int__i_AreJumps_c1 : FnCx := { env := env 9 [(177, S_slices_IndexFunc_int__i_AreJumps_c1)] [], body := bodyOf Try.f180, res := [.tmp 4], ins := [.ro kSint, .fn 181 []], out := [(kbool, true)], T := Bool, fin := fun r => r.1.1, inj := fun t => ((t, ()), ((), (), ())), pts := [], fuel := 400, dr := noDr }
noncomputable def slices_ContainsFunc_int__i_AreJumps_c1 (s0 : List Int) : Bool :=
  decide (slices_IndexFunc_int__i_AreJumps_c1_n s0 ≥ 0)
theorem slices_ContainsFunc_int__i_AreJumps_c1_e (s0 : List Int) : c_slices_ContainsFunc_int__i_AreJumps_c1.start c_slices_ContainsFunc_int__i_AreJumps_c1.L (s0, (), ()) = some (slices_ContainsFunc_int__i_AreJumps_c1 s0) := by kernel_rfl
noncomputable def F_slices_ContainsFunc_int__i_AreJumps_c1 : Ins c_slices_ContainsFunc_int__i_AreJumps_c1.ins → Bool := fun x => slices_ContainsFunc_int__i_AreJumps_c1 x.1
noncomputable def S_slices_ContainsFunc_int__i_AreJumps_c1 : FSpec := mkT c_slices_ContainsFunc_int__i_AreJumps_c1.env.pre c_slices_ContainsFunc_int__i_AreJumps_c1.ins c_slices_ContainsFunc_int__i_AreJumps_c1.out c_slices_ContainsFunc_int__i_AreJumps_c1.inj F_slices_ContainsFunc_int__i_AreJumps_c1
theorem h_slices_ContainsFunc_int__i_AreJumps_c1 : Cert Try.prog 180 S_slices_ContainsFunc_int__i_AreJumps_c1 := FnCx.certT (c := c_slices_ContainsFunc_int__i_AreJumps_c1) F_slices_ContainsFunc_int__i_AreJumps_c1 (tyOk _ _ _) (spOk ⟨h_slices_IndexFunc_int__i_AreJumps_c1, fun _ _ _ => trivial, trivial⟩) (fun _ _ _ _ _ hs => noDr_ok) Try.func180 rfl rfl Try.ntmps180 (by kernel_rfl) rfl rfl (fun _ => rfl) trivial (fun x => .inl ⟨c_slices_ContainsFunc_int__i_AreJumps_c1.start () x, fun _ => rfl⟩) (fun x hb => by
  obtain ⟨s0, _, _⟩ := x
  exact slices_ContainsFunc_int__i_AreJumps_c1_e s0)
/-! impl.AreJumps -/
noncomputable def c_i_AreJumps : FnCx := { env := env 11 [(100, S_i_within), (180, S_slices_ContainsFunc_int__i_AreJumps_c1)] [], body := bodyOf Try.f131, res := [.tmp 2], ins := [.ro kSint], out := [(kbool, true)], T := Bool, fin := fun r => r.1.1, inj := fun t => ((t, ()), ((), ())), pts := [], fuel := 400, dr := noDr }
noncomputable def i_AreJumps (jumps0 : List Int) : Bool :=
  bif i_within (↑(List.length jumps0) : Int) 1 30 then !slices_ContainsFunc_int__i_AreJumps_c1 jumps0 else false
theorem i_AreJumps_e (jumps0 : List Int) : c_i_AreJumps.start c_i_AreJumps.L (jumps0, ()) = some (i_AreJumps jumps0) := by
  refine Eq.trans (b := (bif i_within (↑(List.length jumps0) : Int) 1 30 then some !slices_ContainsFunc_int__i_AreJumps_c1 jumps0 else some false : Option Bool)) (by kernel_rfl) ?_
  unfold i_AreJumps
  repeat (first | rfl | apply condS)
theorem i_AreJumps_eq (l : List Int) : i_AreJumps l = s_baGood l := by
  unfold i_AreJumps s_baGood slices_ContainsFunc_int__i_AreJumps_c1 slices_IndexFunc_int__i_AreJumps_c1_n s_l1All_n
  rw [idxF_any, ← any_not]
  simp only [i_AreJumps_c1, i_within_inB, s_l1In_inB]
  cases inB 1 30 (l.length : Int) <;> cases l.any (fun x => !inB (-30) 30 x) <;> rfl
noncomputable def F_i_AreJumps : Ins c_i_AreJumps.ins → Bool := fun x => i_AreJumps x.1
noncomputable def S_i_AreJumps : FSpec := mkT c_i_AreJumps.env.pre c_i_AreJumps.ins c_i_AreJumps.out c_i_AreJumps.inj F_i_AreJumps
theorem h_i_AreJumps : Cert Try.prog 131 S_i_AreJumps := FnCx.certT (c := c_i_AreJumps) F_i_AreJumps (tyOk _ _ _) (spOk ⟨h_i_within, fun _ _ _ => trivial, ⟨h_slices_ContainsFunc_int__i_AreJumps_c1, fun _ _ _ => trivial, trivial⟩⟩) (fun _ _ _ _ _ hs => noDr_ok) Try.func131 rfl rfl Try.ntmps131 (by kernel_rfl) rfl rfl (fun _ => rfl) trivial (fun x => .inl ⟨c_i_AreJumps.start () x, fun _ => rfl⟩) (fun x hb => by
  obtain ⟨jumps0, _⟩ := x
  exact i_AreJumps_e jumps0)
/-! impl.IsDesk -/
noncomputable def c_i_IsDesk : FnCx := { env := env 21 [(116, S_i_AreStairs), (129, S_i_IsMoving), (130, S_i_IsFlight), (131, S_i_AreJumps)] [], body := bodyOf Try.f44, res := [.tmp 2], ins := [.ro kDesk], out := [(kbool, true)], T := Bool, fin := fun r => r.1.1, inj := fun t => ((t, ()), ((), ())), pts := [], fuel := 400, dr := noDr }
noncomputable def i_IsDesk (d0_Stairs_Steps : Int) (d0_Stairs_Strides : List Int) (d0_Stairs_Broken : List Int) (d0_Moving_Visible : Int) (d0_Moving_Speed : Int) (d0_Flight_Risers : Int) (d0_Flight_Rise : Int) (d0_Flight_Tread : Int) (d0_Jumps : List Int) : Bool :=
  bif i_AreStairs d0_Stairs_Steps d0_Stairs_Strides d0_Stairs_Broken then
    bif i_IsMoving d0_Moving_Visible d0_Moving_Speed then bif i_IsFlight d0_Flight_Risers d0_Flight_Rise d0_Flight_Tread then i_AreJumps d0_Jumps else false
    else false
  else false
theorem i_IsDesk_e (d0_Stairs_Steps : Int) (d0_Stairs_Strides : List Int) (d0_Stairs_Broken : List Int) (d0_Moving_Visible : Int) (d0_Moving_Speed : Int) (d0_Flight_Risers : Int) (d0_Flight_Rise : Int) (d0_Flight_Tread : Int) (d0_Jumps : List Int) : c_i_IsDesk.start c_i_IsDesk.L (((d0_Stairs_Steps, d0_Stairs_Strides, d0_Stairs_Broken), (d0_Moving_Visible, d0_Moving_Speed), (d0_Flight_Risers, d0_Flight_Rise, d0_Flight_Tread), d0_Jumps), ()) = some (i_IsDesk d0_Stairs_Steps d0_Stairs_Strides d0_Stairs_Broken d0_Moving_Visible d0_Moving_Speed d0_Flight_Risers d0_Flight_Rise d0_Flight_Tread d0_Jumps) := by
  refine Eq.trans (b := (bif i_AreStairs d0_Stairs_Steps d0_Stairs_Strides d0_Stairs_Broken then bif i_IsMoving d0_Moving_Visible d0_Moving_Speed then bif i_IsFlight d0_Flight_Risers d0_Flight_Rise d0_Flight_Tread then some (i_AreJumps d0_Jumps) else some false else some false else some false : Option Bool)) (by kernel_rfl) ?_
  unfold i_IsDesk
  repeat (first | rfl | apply condS)
theorem i_IsDesk_eq (a1 : Int) (a2 a3 : List Int) (b1 b2 c1 c2 c3 : Int) (d : List Int) : i_IsDesk a1 a2 a3 b1 b2 c1 c2 c3 d = s_coGood a1 a2 a3 b1 b2 c1 c2 c3 d := by
  unfold i_IsDesk s_coGood i_IsMoving s_moGood i_IsFlight s_riGood
  rw [i_AreStairs_eq, i_AreJumps_eq]
  simp only [i_within_inB, s_l1In_inB]
noncomputable def F_i_IsDesk : Ins c_i_IsDesk.ins → Bool := fun x => i_IsDesk x.1.1.1 x.1.1.2.1 x.1.1.2.2 x.1.2.1.1 x.1.2.1.2 x.1.2.2.1.1 x.1.2.2.1.2.1 x.1.2.2.1.2.2 x.1.2.2.2
noncomputable def S_i_IsDesk : FSpec := mkT c_i_IsDesk.env.pre c_i_IsDesk.ins c_i_IsDesk.out c_i_IsDesk.inj F_i_IsDesk
theorem h_i_IsDesk : Cert Try.prog 44 S_i_IsDesk := FnCx.certT (c := c_i_IsDesk) F_i_IsDesk (tyOk _ _ _) (spOk ⟨h_i_AreStairs, fun _ _ _ => trivial, ⟨h_i_IsMoving, fun _ _ _ => trivial, ⟨h_i_IsFlight, fun _ _ _ => trivial, ⟨h_i_AreJumps, fun _ _ _ => trivial, trivial⟩⟩⟩⟩) (fun _ _ _ _ _ hs => noDr_ok) Try.func44 rfl rfl Try.ntmps44 (by kernel_rfl) rfl rfl (fun _ => rfl) trivial (fun x => .inl ⟨c_i_IsDesk.start () x, fun _ => rfl⟩) (fun x hb => by
  obtain ⟨⟨⟨d0_Stairs_Steps, d0_Stairs_Strides, d0_Stairs_Broken⟩, ⟨d0_Moving_Visible, d0_Moving_Speed⟩, ⟨d0_Flight_Risers, d0_Flight_Rise, d0_Flight_Tread⟩, d0_Jumps⟩, _⟩ := x
  exact i_IsDesk_e d0_Stairs_Steps d0_Stairs_Strides d0_Stairs_Broken d0_Moving_Visible d0_Moving_Speed d0_Flight_Risers d0_Flight_Rise d0_Flight_Tread d0_Jumps)
/-! laws.eqMoving -/
noncomputable def c_w_eqMoving : FnCx := { env := env 15 [] [], body := bodyOf Try.f101, res := [.tmp 4], ins := [.ro kMoving, .ro kMoving], out := [(kbool, true)], T := Bool, fin := fun r => r.1.1, inj := fun t => ((t, ()), ((), (), ())), pts := [], fuel := 400, dr := noDr }
noncomputable def w_eqMoving (a0_Visible : Int) (a0_Speed : Int) (b1_Visible : Int) (b1_Speed : Int) : Bool :=
  bif a0_Visible != b1_Visible then false else bif a0_Speed != b1_Speed then false else true
theorem w_eqMoving_e (a0_Visible : Int) (a0_Speed : Int) (b1_Visible : Int) (b1_Speed : Int) : c_w_eqMoving.start c_w_eqMoving.L ((a0_Visible, a0_Speed), (b1_Visible, b1_Speed), ()) = some (w_eqMoving a0_Visible a0_Speed b1_Visible b1_Speed) := by
  refine Eq.trans (b := (bif a0_Visible != b1_Visible then some false else bif a0_Speed != b1_Speed then some false else some true : Option Bool)) (by kernel_rfl) ?_
  unfold w_eqMoving
  repeat (first | rfl | apply condS)
noncomputable def F_w_eqMoving : Ins c_w_eqMoving.ins → Bool := fun x => w_eqMoving x.1.1 x.1.2 x.2.1.1 x.2.1.2
noncomputable def S_w_eqMoving : FSpec := mkT c_w_eqMoving.env.pre c_w_eqMoving.ins c_w_eqMoving.out c_w_eqMoving.inj F_w_eqMoving
theorem h_w_eqMoving : Cert Try.prog 101 S_w_eqMoving := FnCx.certT (c := c_w_eqMoving) F_w_eqMoving (tyOk _ _ _) (spOk trivial) (fun _ _ _ _ _ hs => noDr_ok) Try.func101 rfl rfl Try.ntmps101 (by kernel_rfl) rfl rfl (fun _ => rfl) trivial (fun x => .inl ⟨c_w_eqMoving.start () x, fun _ => rfl⟩) (fun x hb => by
  obtain ⟨⟨a0_Visible, a0_Speed⟩, ⟨b1_Visible, b1_Speed⟩, _⟩ := x
  exact w_eqMoving_e a0_Visible a0_Speed b1_Visible b1_Speed)
/-! laws.eqFlight -/
noncomputable def c_w_eqFlight : FnCx := { env := env 20 [] [], body := bodyOf Try.f102, res := [.tmp 4], ins := [.ro kFlight, .ro kFlight], out := [(kbool, true)], T := Bool, fin := fun r => r.1.1, inj := fun t => ((t, ()), ((), (), ())), pts := [], fuel := 400, dr := noDr }
noncomputable def w_eqFlight (a0_Risers : Int) (a0_Rise : Int) (a0_Tread : Int) (b1_Risers : Int) (b1_Rise : Int) (b1_Tread : Int) : Bool :=
  bif a0_Risers != b1_Risers then false else bif a0_Rise != b1_Rise then false else bif a0_Tread != b1_Tread then false else true
theorem w_eqFlight_e (a0_Risers : Int) (a0_Rise : Int) (a0_Tread : Int) (b1_Risers : Int) (b1_Rise : Int) (b1_Tread : Int) : c_w_eqFlight.start c_w_eqFlight.L ((a0_Risers, a0_Rise, a0_Tread), (b1_Risers, b1_Rise, b1_Tread), ()) = some (w_eqFlight a0_Risers a0_Rise a0_Tread b1_Risers b1_Rise b1_Tread) := by
  refine Eq.trans (b := (bif a0_Risers != b1_Risers then some false else bif a0_Rise != b1_Rise then some false else bif a0_Tread != b1_Tread then some false else some true : Option Bool)) (by kernel_rfl) ?_
  unfold w_eqFlight
  repeat (first | rfl | apply condS)
noncomputable def F_w_eqFlight : Ins c_w_eqFlight.ins → Bool := fun x => w_eqFlight x.1.1 x.1.2.1 x.1.2.2 x.2.1.1 x.2.1.2.1 x.2.1.2.2
noncomputable def S_w_eqFlight : FSpec := mkT c_w_eqFlight.env.pre c_w_eqFlight.ins c_w_eqFlight.out c_w_eqFlight.inj F_w_eqFlight
theorem h_w_eqFlight : Cert Try.prog 102 S_w_eqFlight := FnCx.certT (c := c_w_eqFlight) F_w_eqFlight (tyOk _ _ _) (spOk trivial) (fun _ _ _ _ _ hs => noDr_ok) Try.func102 rfl rfl Try.ntmps102 (by kernel_rfl) rfl rfl (fun _ => rfl) trivial (fun x => .inl ⟨c_w_eqFlight.start () x, fun _ => rfl⟩) (fun x hb => by
  obtain ⟨⟨a0_Risers, a0_Rise, a0_Tread⟩, ⟨b1_Risers, b1_Rise, b1_Tread⟩, _⟩ := x
  exact w_eqFlight_e a0_Risers a0_Rise a0_Tread b1_Risers b1_Rise b1_Tread)
/-! laws.eqDesk -/
noncomputable def c_w_eqDesk : FnCx := { env := env 29 [(32, S_w_eqStairs), (101, S_w_eqMoving), (102, S_w_eqFlight), (103, S_w_eqIntS)] [], body := bodyOf Try.f20, res := [.tmp 4], ins := [.ro kDesk, .ro kDesk], out := [(kbool, true)], T := Bool, fin := fun r => r.1.1, inj := fun t => ((t, ()), ((), (), ())), pts := [], fuel := 400, dr := noDr }
noncomputable def w_eqDesk (a0_Stairs_Steps : Int) (a0_Stairs_Strides : List Int) (a0_Stairs_Broken : List Int) (a0_Moving_Visible : Int) (a0_Moving_Speed : Int) (a0_Flight_Risers : Int) (a0_Flight_Rise : Int) (a0_Flight_Tread : Int) (a0_Jumps : List Int) (b1_Stairs_Steps : Int) (b1_Stairs_Strides : List Int) (b1_Stairs_Broken : List Int) (b1_Moving_Visible : Int) (b1_Moving_Speed : Int) (b1_Flight_Risers : Int) (b1_Flight_Rise : Int) (b1_Flight_Tread : Int) (b1_Jumps : List Int) : Bool :=
  bif !w_eqStairs a0_Stairs_Steps a0_Stairs_Strides a0_Stairs_Broken b1_Stairs_Steps b1_Stairs_Strides b1_Stairs_Broken then false
  else
    bif !w_eqMoving a0_Moving_Visible a0_Moving_Speed b1_Moving_Visible b1_Moving_Speed then false
    else
      bif !w_eqFlight a0_Flight_Risers a0_Flight_Rise a0_Flight_Tread b1_Flight_Risers b1_Flight_Rise b1_Flight_Tread then false
      else bif !w_eqIntS_n a0_Jumps b1_Jumps then false else true
theorem w_eqDesk_e (a0_Stairs_Steps : Int) (a0_Stairs_Strides : List Int) (a0_Stairs_Broken : List Int) (a0_Moving_Visible : Int) (a0_Moving_Speed : Int) (a0_Flight_Risers : Int) (a0_Flight_Rise : Int) (a0_Flight_Tread : Int) (a0_Jumps : List Int) (b1_Stairs_Steps : Int) (b1_Stairs_Strides : List Int) (b1_Stairs_Broken : List Int) (b1_Moving_Visible : Int) (b1_Moving_Speed : Int) (b1_Flight_Risers : Int) (b1_Flight_Rise : Int) (b1_Flight_Tread : Int) (b1_Jumps : List Int) : c_w_eqDesk.start c_w_eqDesk.L (((a0_Stairs_Steps, a0_Stairs_Strides, a0_Stairs_Broken), (a0_Moving_Visible, a0_Moving_Speed), (a0_Flight_Risers, a0_Flight_Rise, a0_Flight_Tread), a0_Jumps), ((b1_Stairs_Steps, b1_Stairs_Strides, b1_Stairs_Broken), (b1_Moving_Visible, b1_Moving_Speed), (b1_Flight_Risers, b1_Flight_Rise, b1_Flight_Tread), b1_Jumps), ()) = some (w_eqDesk a0_Stairs_Steps a0_Stairs_Strides a0_Stairs_Broken a0_Moving_Visible a0_Moving_Speed a0_Flight_Risers a0_Flight_Rise a0_Flight_Tread a0_Jumps b1_Stairs_Steps b1_Stairs_Strides b1_Stairs_Broken b1_Moving_Visible b1_Moving_Speed b1_Flight_Risers b1_Flight_Rise b1_Flight_Tread b1_Jumps) := by
  refine Eq.trans (b := (bif !w_eqStairs a0_Stairs_Steps a0_Stairs_Strides a0_Stairs_Broken b1_Stairs_Steps b1_Stairs_Strides b1_Stairs_Broken then some false else bif !w_eqMoving a0_Moving_Visible a0_Moving_Speed b1_Moving_Visible b1_Moving_Speed then some false else bif !w_eqFlight a0_Flight_Risers a0_Flight_Rise a0_Flight_Tread b1_Flight_Risers b1_Flight_Rise b1_Flight_Tread then some false else bif !w_eqIntS_n a0_Jumps b1_Jumps then some false else some true : Option Bool)) (by kernel_rfl) ?_
  unfold w_eqDesk
  repeat (first | rfl | apply condS)
theorem szDesk_le {a1 : Int} {a2 a3 : List Int} {b1 b2 c1 c2 c3 : Int} {d : List Int} (h2 : a2.length ≤ maxLen) (h3 : a3.length ≤ maxLen) (hd : d.length ≤ maxLen) (hs : decide (w_szDesk a1 a2 a3 b1 b2 c1 c2 c3 d 1048576 < 0) = false) :
    a2.length ≤ 1048576 ∧ a3.length ≤ 1048576 ∧ d.length ≤ 1048576 := by
  unfold w_szDesk at hs
  cases h : decide (w_szStairs a1 a2 a3 1048576 < 0)
  · rw [h] at hs
    obtain ⟨g1, g2⟩ := szStairs_le h2 h3 h
    have e : w_szStairs a1 a2 a3 1048576 = 1048576 - a2.length - a3.length := by
      unfold w_szStairs at h ⊢
      cases k1 : decide (w_szIntS a2 1048576 < 0)
      · obtain ⟨m1, m2⟩ := szIntS_le h2 (by omega) (by omega) k1
        rw [k1] at h
        cases k2 : decide (w_szIntS a3 (w_szIntS a2 1048576) < 0)
        · obtain ⟨m3, m4⟩ := szIntS_le h3 (by omega) (by omega) k2
          simp only [cond_false]; omega
        · rw [k2] at h; simp at h
      · rw [k1] at h; simp at h
    have h0 := of_decide_eq_false h
    cases k3 : decide (w_szIntS d (w_szStairs a1 a2 a3 1048576) < 0)
    · obtain ⟨m5, _⟩ := szIntS_le hd (by omega) (by omega) k3
      omega
    · rw [k3] at hs; simp at hs
  · rw [h] at hs; simp at hs
theorem toDesk_eq {a1 : Int} {a2 a3 : List Int} {b1 b2 c1 c2 c3 : Int} {d : List Int} (h2 : a2.length ≤ 1048576) (h3 : a3.length ≤ 1048576) (hd : d.length ≤ 1048576) :
    w_toDesk a1 a2 a3 b1 b2 c1 c2 c3 d = some ((a1, a2, a3), (b1, b2), (c1, c2, c3), d) := by
  unfold w_toDesk w_toIntS_n
  rw [toStairs_eq h2 h3, decide_eq_true (by omega : d.length ≤ 4294967296)]
  rfl
theorem eqDesk_eq (x y : (Int × List Int × List Int) × (Int × Int) × (Int × Int × Int) × List Int) :
    w_eqDesk x.1.1 x.1.2.1 x.1.2.2 x.2.1.1 x.2.1.2 x.2.2.1.1 x.2.2.1.2.1 x.2.2.1.2.2 x.2.2.2 y.1.1 y.1.2.1 y.1.2.2 y.2.1.1 y.2.1.2 y.2.2.1.1 y.2.2.1.2.1 y.2.2.1.2.2 y.2.2.2 = decide (x = y) := by
  unfold w_eqDesk w_eqIntS_n
  have e := eqStairs_eq x.1 y.1
  rw [e]
  obtain ⟨xs, ⟨x1, x2⟩, ⟨x3, x4, x5⟩, x6⟩ := x
  obtain ⟨ys, ⟨y1, y2⟩, ⟨y3, y4, y5⟩, y6⟩ := y
  unfold w_eqMoving w_eqFlight
  by_cases h0 : xs = ys
  · by_cases h1 : x1 = y1
    · by_cases h2 : x2 = y2
      · by_cases h3 : x3 = y3
        · by_cases h4 : x4 = y4
          · by_cases h5 : x5 = y5
            · by_cases h6 : x6 = y6 <;> simp [h0, h1, h2, h3, h4, h5, h6]
            · simp [h0, h1, h2, h3, h4, h5]
          · simp [h0, h1, h2, h3, h4]
        · simp [h0, h1, h2, h3]
      · simp [h0, h1, h2]
    · simp [h0, h1]
  · simp [h0]
noncomputable def F_w_eqDesk : Ins c_w_eqDesk.ins → Bool := fun x => w_eqDesk x.1.1.1 x.1.1.2.1 x.1.1.2.2 x.1.2.1.1 x.1.2.1.2 x.1.2.2.1.1 x.1.2.2.1.2.1 x.1.2.2.1.2.2 x.1.2.2.2 x.2.1.1.1 x.2.1.1.2.1 x.2.1.1.2.2 x.2.1.2.1.1 x.2.1.2.1.2 x.2.1.2.2.1.1 x.2.1.2.2.1.2.1 x.2.1.2.2.1.2.2 x.2.1.2.2.2
noncomputable def S_w_eqDesk : FSpec := mkT c_w_eqDesk.env.pre c_w_eqDesk.ins c_w_eqDesk.out c_w_eqDesk.inj F_w_eqDesk
theorem h_w_eqDesk : Cert Try.prog 20 S_w_eqDesk := FnCx.certT (c := c_w_eqDesk) F_w_eqDesk (tyOk _ _ _) (spOk ⟨h_w_eqStairs, fun _ _ _ => trivial, ⟨h_w_eqMoving, fun _ _ _ => trivial, ⟨h_w_eqFlight, fun _ _ _ => trivial, ⟨h_w_eqIntS, fun _ _ _ => trivial, trivial⟩⟩⟩⟩) (fun _ _ _ _ _ hs => noDr_ok) Try.func20 rfl rfl Try.ntmps20 (by kernel_rfl) rfl rfl (fun _ => rfl) trivial (fun x => .inl ⟨c_w_eqDesk.start () x, fun _ => rfl⟩) (fun x hb => by
  obtain ⟨⟨⟨a0_Stairs_Steps, a0_Stairs_Strides, a0_Stairs_Broken⟩, ⟨a0_Moving_Visible, a0_Moving_Speed⟩, ⟨a0_Flight_Risers, a0_Flight_Rise, a0_Flight_Tread⟩, a0_Jumps⟩, ⟨⟨b1_Stairs_Steps, b1_Stairs_Strides, b1_Stairs_Broken⟩, ⟨b1_Moving_Visible, b1_Moving_Speed⟩, ⟨b1_Flight_Risers, b1_Flight_Rise, b1_Flight_Tread⟩, b1_Jumps⟩, _⟩ := x
  exact w_eqDesk_e a0_Stairs_Steps a0_Stairs_Strides a0_Stairs_Broken a0_Moving_Visible a0_Moving_Speed a0_Flight_Risers a0_Flight_Rise a0_Flight_Tread a0_Jumps b1_Stairs_Steps b1_Stairs_Strides b1_Stairs_Broken b1_Moving_Visible b1_Moving_Speed b1_Flight_Risers b1_Flight_Rise b1_Flight_Tread b1_Jumps)
/-! laws.FnExactIsDesk -/
noncomputable def c_w_FnExactIsDesk : FnCx := { env := env 27 [(41, S_w_szDesk), (43, S_w_toDesk), (42, S_s_IsDesk), (44, S_i_IsDesk), (20, S_w_eqDesk)] [], body := bodyOf Try.f9, res := [.tmp 2], ins := [.ro kwDesk], out := [(kbool, true)], T := Bool, fin := fun r => r.1.1, inj := fun t => ((t, ()), ((), ())), pts := [], fuel := 400, dr := evDr (env 27 [(41, S_w_szDesk), (43, S_w_toDesk), (42, S_s_IsDesk), (44, S_i_IsDesk), (20, S_w_eqDesk)] []) }
noncomputable def w_FnExactIsDesk (aD0_Stairs_Steps : Int) (aD0_Stairs_Strides : List Int) (aD0_Stairs_Broken : List Int) (aD0_Moving_Visible : Int) (aD0_Moving_Speed : Int) (aD0_Flight_Risers : Int) (aD0_Flight_Rise : Int) (aD0_Flight_Tread : Int) (aD0_Jumps : List Int) : Option Bool :=
  bif
      decide
        (w_szDesk aD0_Stairs_Steps aD0_Stairs_Strides aD0_Stairs_Broken aD0_Moving_Visible aD0_Moving_Speed aD0_Flight_Risers aD0_Flight_Rise aD0_Flight_Tread
            aD0_Jumps 1048576 <
          0) then
    some true
  else
    Option.bind
      (w_toDesk aD0_Stairs_Steps aD0_Stairs_Strides aD0_Stairs_Broken aD0_Moving_Visible aD0_Moving_Speed aD0_Flight_Risers aD0_Flight_Rise aD0_Flight_Tread
        aD0_Jumps)
      fun r =>
      Option.bind
        (w_toDesk aD0_Stairs_Steps aD0_Stairs_Strides aD0_Stairs_Broken aD0_Moving_Visible aD0_Moving_Speed aD0_Flight_Risers aD0_Flight_Rise aD0_Flight_Tread
          aD0_Jumps)
        fun r_1 =>
        bif
            !i_IsDesk (Prod.fst (Prod.fst r_1)) (Prod.fst (Prod.snd (Prod.fst r_1))) (Prod.snd (Prod.snd (Prod.fst r_1))) (Prod.fst (Prod.fst (Prod.snd r_1)))
                  (Prod.snd (Prod.fst (Prod.snd r_1))) (Prod.fst (Prod.fst (Prod.snd (Prod.snd r_1)))) (Prod.fst (Prod.snd (Prod.fst (Prod.snd (Prod.snd r_1)))))
                  (Prod.snd (Prod.snd (Prod.fst (Prod.snd (Prod.snd r_1))))) (Prod.snd (Prod.snd (Prod.snd r_1))) ==
                s_IsDesk (Prod.fst (Prod.fst r)) (Prod.fst (Prod.snd (Prod.fst r))) (Prod.snd (Prod.snd (Prod.fst r))) (Prod.fst (Prod.fst (Prod.snd r)))
                  (Prod.snd (Prod.fst (Prod.snd r))) (Prod.fst (Prod.fst (Prod.snd (Prod.snd r)))) (Prod.fst (Prod.snd (Prod.fst (Prod.snd (Prod.snd r)))))
                  (Prod.snd (Prod.snd (Prod.fst (Prod.snd (Prod.snd r))))) (Prod.snd (Prod.snd (Prod.snd r))) then
          some false
        else
          Option.bind
            (w_toDesk aD0_Stairs_Steps aD0_Stairs_Strides aD0_Stairs_Broken aD0_Moving_Visible aD0_Moving_Speed aD0_Flight_Risers aD0_Flight_Rise aD0_Flight_Tread
              aD0_Jumps)
            fun r =>
            bif
                !w_eqDesk (Prod.fst (Prod.fst r_1)) (Prod.fst (Prod.snd (Prod.fst r_1))) (Prod.snd (Prod.snd (Prod.fst r_1))) (Prod.fst (Prod.fst (Prod.snd r_1)))
                    (Prod.snd (Prod.fst (Prod.snd r_1))) (Prod.fst (Prod.fst (Prod.snd (Prod.snd r_1))))
                    (Prod.fst (Prod.snd (Prod.fst (Prod.snd (Prod.snd r_1))))) (Prod.snd (Prod.snd (Prod.fst (Prod.snd (Prod.snd r_1)))))
                    (Prod.snd (Prod.snd (Prod.snd r_1))) (Prod.fst (Prod.fst r)) (Prod.fst (Prod.snd (Prod.fst r))) (Prod.snd (Prod.snd (Prod.fst r)))
                    (Prod.fst (Prod.fst (Prod.snd r))) (Prod.snd (Prod.fst (Prod.snd r))) (Prod.fst (Prod.fst (Prod.snd (Prod.snd r))))
                    (Prod.fst (Prod.snd (Prod.fst (Prod.snd (Prod.snd r))))) (Prod.snd (Prod.snd (Prod.fst (Prod.snd (Prod.snd r)))))
                    (Prod.snd (Prod.snd (Prod.snd r))) then
              some false
            else some true
theorem w_FnExactIsDesk_e (aD0_Stairs_Steps : Int) (aD0_Stairs_Strides : List Int) (aD0_Stairs_Broken : List Int) (aD0_Moving_Visible : Int) (aD0_Moving_Speed : Int) (aD0_Flight_Risers : Int) (aD0_Flight_Rise : Int) (aD0_Flight_Tread : Int) (aD0_Jumps : List Int) : c_w_FnExactIsDesk.start c_w_FnExactIsDesk.L (((aD0_Stairs_Steps, aD0_Stairs_Strides, aD0_Stairs_Broken), (aD0_Moving_Visible, aD0_Moving_Speed), (aD0_Flight_Risers, aD0_Flight_Rise, aD0_Flight_Tread), aD0_Jumps), ()) = w_FnExactIsDesk aD0_Stairs_Steps aD0_Stairs_Strides aD0_Stairs_Broken aD0_Moving_Visible aD0_Moving_Speed aD0_Flight_Risers aD0_Flight_Rise aD0_Flight_Tread aD0_Jumps := by kernel_rfl
noncomputable def F_w_FnExactIsDesk : Ins c_w_FnExactIsDesk.ins → Option Bool := fun x => w_FnExactIsDesk x.1.1.1 x.1.1.2.1 x.1.1.2.2 x.1.2.1.1 x.1.2.1.2 x.1.2.2.1.1 x.1.2.2.1.2.1 x.1.2.2.1.2.2 x.1.2.2.2
noncomputable def S_w_FnExactIsDesk : FSpec := mkF c_w_FnExactIsDesk.env.pre c_w_FnExactIsDesk.ins c_w_FnExactIsDesk.out c_w_FnExactIsDesk.inj F_w_FnExactIsDesk
theorem h_w_FnExactIsDesk : Cert Try.prog 9 S_w_FnExactIsDesk := FnCx.certF (c := c_w_FnExactIsDesk) F_w_FnExactIsDesk (tyOk _ _ _) (spOk ⟨h_w_szDesk, fun _ _ _ => trivial, ⟨h_w_toDesk, fun _ _ _ => trivial, ⟨h_s_IsDesk, fun _ _ _ => trivial, ⟨h_i_IsDesk, fun _ _ _ => trivial, ⟨h_w_eqDesk, fun _ _ _ => trivial, trivial⟩⟩⟩⟩⟩) (fun _ _ _ _ _ hs => evDr_ok (tyOk _ _ _) hs follows) Try.func9 rfl rfl Try.ntmps9 (by kernel_rfl) rfl rfl (fun _ => rfl) trivial (fun x => .inl ⟨c_w_FnExactIsDesk.start () x, fun _ => rfl⟩) (fun x t hb ht => by
  obtain ⟨⟨⟨aD0_Stairs_Steps, aD0_Stairs_Strides, aD0_Stairs_Broken⟩, ⟨aD0_Moving_Visible, aD0_Moving_Speed⟩, ⟨aD0_Flight_Risers, aD0_Flight_Rise, aD0_Flight_Tread⟩, aD0_Jumps⟩, _⟩ := x
  exact (w_FnExactIsDesk_e aD0_Stairs_Steps aD0_Stairs_Strides aD0_Stairs_Broken aD0_Moving_Visible aD0_Moving_Speed aD0_Flight_Risers aD0_Flight_Rise aD0_Flight_Tread aD0_Jumps).trans ht)
end Go.Proofs.Ytinmfblemgkboaa.V
