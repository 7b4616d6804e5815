/- Functions of the program, as plain functions. No condition. -/
import Derived.Test.YtlffgllmjjkfdaaDoorTyJ
set_option linter.unusedVariables false
set_option linter.unusedSimpArgs false
set_option maxRecDepth 100000
namespace Go.Proofs.YtlffgllmjjkfdaaDoor.V
open Go Go.Ev Go.Proofs
/-! spec.l1Split -/
noncomputable def c_s_l1Split : FnCx := { env := env 34 [] [], body := bodyOf Tryd.f35, res := [.tmp 4], ins := [.ro kstring, .ro kuint8], out := [(kSstring, true)], T := List ByteArray, fin := fun r => r.1.1, inj := fun t => ((t, ()), ((), (), ())), pts := [([.inLoop [1, 1, 1, 0, 1, 0, 0], .inBlock 0, .code [1, 1, 1, 1]], Shape.mk [Bs.row kstring 9 true] [(0, Ss.one (Cs.sc kstring)), (1, Ss.one (Cs.sc kuint8)), (5, Ss.one (Cs.sl 0)), (6, Ss.one (Cs.sc kint)), (7, Ss.one (Cs.sc kint))] [Ss.one (Cs.any), Ss.one (Cs.any)])], fuel := 400, dr := noDr }
noncomputable def s_l1Split_t1 (g1 : List (ByteArray) → ByteArray → Int → Int → Int → Option (List ByteArray)) (r0 : List (ByteArray)) (s0 : ByteArray) (b1 : Int) (from6 : Int) (i7 : Int) : Option (List ByteArray) :=
  bif decide (i7 < (↑(ByteArray.size s0) : Int)) then
    bif decide (0 ≤ i7) then
      bif decide (i7 < (↑(ByteArray.size s0) : Int)) then
        bif bt s0 i7 == b1 then
          bif decide (0 ≤ i7) then
            bif decide (i7 ≤ (↑(ByteArray.size s0) : Int)) then
              bif decide (0 ≤ from6) then
                bif decide (from6 ≤ i7) then
                  bif Nat.ble (List.length r0 + 1) 4294967296 then
                    g1 (r0 ++ [ByteArray.extract s0 (Int.toNat from6) (Int.toNat i7)]) s0 b1 (IntKind.wrap IntKind.i64 (i7 + 1))
                      (IntKind.wrap IntKind.i64 (i7 + 1))
                  else none
                else none
              else none
            else none
          else none
        else g1 r0 s0 b1 from6 (IntKind.wrap IntKind.i64 (i7 + 1))
      else none
    else none
  else
    bif decide (0 ≤ from6) then
      bif decide (from6 ≤ (↑(ByteArray.size s0) : Int)) then
        bif Nat.ble (List.length r0 + 1) 4294967296 then some (r0 ++ [ByteArray.extract s0 (Int.toNat from6) (Int.toNat (↑(ByteArray.size s0) : Int))]) else none
      else none
    else none
noncomputable def s_l1Split_t0 (g1 : List (ByteArray) → ByteArray → Int → Int → Int → Option (List ByteArray)) (s0 : ByteArray) (b1 : Int) : Option (List ByteArray) :=
  g1 [] s0 b1 0 0
theorem s_l1Split_ts : Tails c_s_l1Split.pts c_s_l1Split.round :=
  ⟨fun s => by
    obtain ⟨⟨r0, _⟩, ⟨s0, b1, _, from6, i7, _⟩, ⟨_, _, _⟩⟩ := s
    refine Tail.eq (Y := fun g => s_l1Split_t1 (fun r0 s0 b1 from6 i7 => g.1 ((r0, ()), (s0, b1, (), from6, i7, ()), ((), (), ()))) r0 s0 b1 from6 i7) ?_ (fun g => by kernel_rfl)
    simp only [s_l1Split_t1]; repeat (first | apply Tail.cond | (apply Tail.bind; intro _) | exact Tail.here _ | exact Tail.there (Tail.here _) | exact Tail.there (Tail.there (Tail.here _)) | exact Tail.there (Tail.there (Tail.there (Tail.here _))) | exact Tail.there (Tail.there (Tail.there (Tail.there (Tail.here _)))) | exact Tail.there (Tail.there (Tail.there (Tail.there (Tail.there (Tail.here _))))) | exact Tail.const _), trivial⟩
theorem s_l1Split_hs : ∀ x, Tail c_s_l1Split.pts (fun g => c_s_l1Split.start g x) := fun x => by
    obtain ⟨s0, b1, _⟩ := x
    refine Tail.eq (Y := fun g => s_l1Split_t0 (fun r0 s0 b1 from6 i7 => g.1 ((r0, ()), (s0, b1, (), from6, i7, ()), ((), (), ()))) s0 b1) ?_ (fun g => by kernel_rfl)
    simp only [s_l1Split_t0]; repeat (first | apply Tail.cond | (apply Tail.bind; intro _) | exact Tail.here _ | exact Tail.there (Tail.here _) | exact Tail.there (Tail.there (Tail.here _)) | exact Tail.there (Tail.there (Tail.there (Tail.here _))) | exact Tail.there (Tail.there (Tail.there (Tail.there (Tail.here _)))) | exact Tail.there (Tail.there (Tail.there (Tail.there (Tail.there (Tail.here _))))) | exact Tail.const _)
noncomputable def s_l1Split_L1 (r0 : List (ByteArray)) (s0 : ByteArray) (b1 : Int) (from6 : Int) (i7 : Int) : Option (List ByteArray) := c_s_l1Split.L.1 ((r0, ()), (s0, b1, (), from6, i7, ()), ((), (), ()))
theorem s_l1Split_u1 (r0 : List (ByteArray)) (s0 : ByteArray) (b1 : Int) (from6 : Int) (i7 : Int) : s_l1Split_L1 r0 s0 b1 from6 i7 = s_l1Split_t1 s_l1Split_L1 r0 s0 b1 from6 i7 :=
  (congrArg (fun g => g.1 ((r0, ()), (s0, b1, (), from6, i7, ()), ((), (), ()))) (FnCx.L_eq s_l1Split_ts)).trans (by kernel_rfl)
noncomputable def s_l1Split (s0 : ByteArray) (b1 : Int) : Option (List ByteArray) := s_l1Split_t0 s_l1Split_L1 s0 b1
theorem s_l1Split_e (s0 : ByteArray) (b1 : Int) : c_s_l1Split.start c_s_l1Split.L (s0, b1, ()) = s_l1Split s0 b1 := by kernel_rfl
noncomputable def F_s_l1Split : Ins c_s_l1Split.ins → Option (List ByteArray) := fun x => s_l1Split x.1 x.2.1
noncomputable def S_s_l1Split : FSpec := mkF c_s_l1Split.env.pre c_s_l1Split.ins c_s_l1Split.out c_s_l1Split.inj F_s_l1Split
theorem h_s_l1Split : Cert Tryd.prog 35 S_s_l1Split := FnCx.certF (c := c_s_l1Split) F_s_l1Split (tyOk _ _ _) (spOk trivial) (fun _ _ _ _ _ hs => noDr_ok) Tryd.func35 rfl rfl Tryd.ntmps35 (by kernel_rfl) rfl rfl (fun _ => rfl) s_l1Split_ts s_l1Split_hs (fun x t hb ht => by
  obtain ⟨s0, b1, _⟩ := x
  exact (s_l1Split_e s0 b1).trans ht)
/-! spec.l1In -/
noncomputable def c_s_l1In : FnCx := { env := env 15 [] [], body := bodyOf Tryd.f42, res := [.tmp 6], ins := [.ro kint, .ro kint, .ro kint], out := [(kbool, true)], T := Bool, fin := fun r => r.1.1, inj := fun t => ((t, ()), ((), (), (), ())), pts := [], fuel := 400, dr := noDr }
noncomputable def s_l1In (n0 : Int) (lo1 : Int) (hi2 : Int) : Bool :=
  bif decide (n0 ≥ lo1) then decide (n0 ≤ hi2) else false
theorem s_l1In_e (n0 : Int) (lo1 : Int) (hi2 : Int) : c_s_l1In.start c_s_l1In.L (n0, lo1, hi2, ()) = some (s_l1In n0 lo1 hi2) := by
  refine Eq.trans (b := (bif decide (n0 ≥ lo1) then some (decide (n0 ≤ hi2)) else some false : Option Bool)) (by kernel_rfl) ?_
  unfold s_l1In
  repeat (first | rfl | apply condS)
noncomputable def F_s_l1In : Ins c_s_l1In.ins → Bool := fun x => s_l1In x.1 x.2.1 x.2.2.1
noncomputable def S_s_l1In : FSpec := mkT c_s_l1In.env.pre c_s_l1In.ins c_s_l1In.out c_s_l1In.inj F_s_l1In
theorem h_s_l1In : Cert Tryd.prog 42 S_s_l1In := FnCx.certT (c := c_s_l1In) F_s_l1In (tyOk _ _ _) (spOk trivial) (fun _ _ _ _ _ hs => noDr_ok) Tryd.func42 rfl rfl Tryd.ntmps42 (by kernel_rfl) rfl rfl (fun _ => rfl) trivial (fun x => .inl ⟨c_s_l1In.start () x, fun _ => rfl⟩) (fun x hb => by
  obtain ⟨n0, lo1, hi2, _⟩ := x
  exact s_l1In_e n0 lo1 hi2)
/-! spec.l1Read -/
noncomputable def c_s_l1Read : FnCx := { env := env 44 [(42, S_s_l1In)] [], body := bodyOf Tryd.f36, res := [.tmp 2], ins := [.ro kstring], out := [(kint, true)], T := Int, fin := fun r => r.1.1, inj := fun t => ((t, ()), ((), ())), pts := [([.inLoop [1, 1, 1, 0, 1, 0, 0], .inBlock 0, .code [1, 1, 1, 1]], Shape.mk [] [(0, Ss.one (Cs.sc kstring)), (3, Ss.one (Cs.sc kint)), (4, Ss.one (Cs.sc kint))] [Ss.one (Cs.any)])], fuel := 400, dr := noDr }
noncomputable def s_l1Read_t1 (g1 : ByteArray → Int → Int → Option (Int)) (s0 : ByteArray) (n3 : Int) (i4 : Int) : Option Int :=
  bif decide (i4 < (↑(ByteArray.size s0) : Int)) then
    bif decide (0 ≤ i4) then
      bif decide (i4 < (↑(ByteArray.size s0) : Int)) then
        bif decide (bt s0 i4 < 48) then some (-1)
        else
          bif decide (0 ≤ i4) then
            bif decide (i4 < (↑(ByteArray.size s0) : Int)) then
              bif decide (bt s0 i4 > 57) then some (-1)
              else
                bif decide (0 ≤ i4) then
                  bif decide (i4 < (↑(ByteArray.size s0) : Int)) then
                    g1 s0 (IntKind.wrap IntKind.i64 (IntKind.wrap IntKind.i64 (10 * n3) + IntKind.wrap IntKind.i64 (IntKind.wrap IntKind.u8 (bt s0 i4 - 48))))
                      (IntKind.wrap IntKind.i64 (i4 + 1))
                  else none
                else none
            else none
          else none
      else none
    else none
  else some n3
noncomputable def s_l1Read_t0 (g1 : ByteArray → Int → Int → Option (Int)) (s0 : ByteArray) : Option Int :=
  bif !s_l1In (↑(ByteArray.size s0) : Int) 1 6 then some (-1)
  else
    bif decide (0 < (↑(ByteArray.size s0) : Int)) then
      bif bt s0 0 == 48 then bif decide ((↑(ByteArray.size s0) : Int) > 1) then some (-1) else g1 s0 0 0 else g1 s0 0 0
    else none
theorem s_l1Read_ts : Tails c_s_l1Read.pts c_s_l1Read.round :=
  ⟨fun s => by
    obtain ⟨_, ⟨s0, n3, i4, _⟩, ⟨_, _⟩⟩ := s
    refine Tail.eq (Y := fun g => s_l1Read_t1 (fun s0 n3 i4 => g.1 ((), (s0, n3, i4, ()), ((), ()))) s0 n3 i4) ?_ (fun g => by kernel_rfl)
    simp only [s_l1Read_t1]; repeat (first | apply Tail.cond | (apply Tail.bind; intro _) | exact Tail.here _ | exact Tail.there (Tail.here _) | exact Tail.there (Tail.there (Tail.here _)) | exact Tail.there (Tail.there (Tail.there (Tail.here _))) | exact Tail.there (Tail.there (Tail.there (Tail.there (Tail.here _)))) | exact Tail.there (Tail.there (Tail.there (Tail.there (Tail.there (Tail.here _))))) | exact Tail.const _), trivial⟩
theorem s_l1Read_hs : ∀ x, Tail c_s_l1Read.pts (fun g => c_s_l1Read.start g x) := fun x => by
    obtain ⟨s0, _⟩ := x
    refine Tail.eq (Y := fun g => s_l1Read_t0 (fun s0 n3 i4 => g.1 ((), (s0, n3, i4, ()), ((), ()))) s0) ?_ (fun g => by kernel_rfl)
    simp only [s_l1Read_t0]; repeat (first | apply Tail.cond | (apply Tail.bind; intro _) | exact Tail.here _ | exact Tail.there (Tail.here _) | exact Tail.there (Tail.there (Tail.here _)) | exact Tail.there (Tail.there (Tail.there (Tail.here _))) | exact Tail.there (Tail.there (Tail.there (Tail.there (Tail.here _)))) | exact Tail.there (Tail.there (Tail.there (Tail.there (Tail.there (Tail.here _))))) | exact Tail.const _)
noncomputable def s_l1Read_L1 (s0 : ByteArray) (n3 : Int) (i4 : Int) : Option Int := c_s_l1Read.L.1 ((), (s0, n3, i4, ()), ((), ()))
theorem s_l1Read_u1 (s0 : ByteArray) (n3 : Int) (i4 : Int) : s_l1Read_L1 s0 n3 i4 = s_l1Read_t1 s_l1Read_L1 s0 n3 i4 :=
  (congrArg (fun g => g.1 ((), (s0, n3, i4, ()), ((), ()))) (FnCx.L_eq s_l1Read_ts)).trans (by kernel_rfl)
noncomputable def s_l1Read (s0 : ByteArray) : Option Int := s_l1Read_t0 s_l1Read_L1 s0
theorem s_l1Read_e (s0 : ByteArray) : c_s_l1Read.start c_s_l1Read.L (s0, ()) = s_l1Read s0 := by kernel_rfl
noncomputable def F_s_l1Read : Ins c_s_l1Read.ins → Option Int := fun x => s_l1Read x.1
noncomputable def S_s_l1Read : FSpec := mkF c_s_l1Read.env.pre c_s_l1Read.ins c_s_l1Read.out c_s_l1Read.inj F_s_l1Read
theorem h_s_l1Read : Cert Tryd.prog 36 S_s_l1Read := FnCx.certF (c := c_s_l1Read) F_s_l1Read (tyOk _ _ _) (spOk ⟨h_s_l1In, fun _ _ h => h, trivial⟩) (fun _ _ _ _ _ hs => noDr_ok) Tryd.func36 rfl rfl Tryd.ntmps36 (by kernel_rfl) rfl rfl (fun _ => rfl) s_l1Read_ts s_l1Read_hs (fun x t hb ht => by
  obtain ⟨s0, _⟩ := x
  exact (s_l1Read_e s0).trans ht)
/-! spec.l1All -/
noncomputable def c_s_l1All : FnCx := { env := env 21 [(42, S_s_l1In)] [], body := bodyOf Tryd.f43, res := [.tmp 6], ins := [.ro kSint, .ro kint, .ro kint], out := [(kbool, true)], T := Bool, fin := fun r => r.1.1, inj := fun t => ((t, ()), ((), (), (), ())), pts := [([.inLoop [1, 0, 1, 0, 0], .inBlock 0, .code [1, 1]], Shape.mk [Bs.row kint 3 false] [(1, Ss.one (Cs.sc kint)), (2, Ss.one (Cs.sc kint)), (9, Ss.one (Cs.sl 0)), (10, Ss.one (Cs.sc kint)), (11, Ss.one (Cs.sc kint))] [Ss.one (Cs.any), Ss.one (Cs.any), Ss.one (Cs.any)])], fuel := 400, dr := noDr }
noncomputable def s_l1All_t1 (g1 : List (Int) → Int → Int → Int → Int → Option (Bool)) (r0 : List (Int)) (lo1 : Int) (hi2 : Int) (s10 : Int) (s11 : Int) : Option Bool :=
  bif decide (s11 < s10) then
    bif decide (0 ≤ s11) then
      bif decide (s11 < (↑(List.length r0) : Int)) then
        bif !s_l1In (rdk kint r0 s11) lo1 hi2 then some false else g1 r0 lo1 hi2 s10 (IntKind.wrap IntKind.i64 (s11 + 1))
      else none
    else none
  else some true
noncomputable def s_l1All_t0 (g1 : List (Int) → Int → Int → Int → Int → Option (Bool)) (l0 : List Int) (lo1 : Int) (hi2 : Int) : Option Bool :=
  g1 l0 lo1 hi2 (↑(List.length l0) : Int) 0
theorem s_l1All_ts : Tails c_s_l1All.pts c_s_l1All.round :=
  ⟨fun s => by
    obtain ⟨⟨r0, _⟩, ⟨lo1, hi2, _, s10, s11, _⟩, ⟨_, _, _, _⟩⟩ := s
    refine Tail.eq (Y := fun g => s_l1All_t1 (fun r0 lo1 hi2 s10 s11 => g.1 ((r0, ()), (lo1, hi2, (), s10, s11, ()), ((), (), (), ()))) r0 lo1 hi2 s10 s11) ?_ (fun g => by kernel_rfl)
    simp only [s_l1All_t1]; repeat (first | exact Tail.const _ | exact Tail.here _ | exact Tail.there (Tail.here _) | exact Tail.there (Tail.there (Tail.here _)) | exact Tail.there (Tail.there (Tail.there (Tail.here _))) | exact Tail.there (Tail.there (Tail.there (Tail.there (Tail.here _)))) | exact Tail.there (Tail.there (Tail.there (Tail.there (Tail.there (Tail.here _))))) | apply Tail.cond | (apply Tail.bind; intro _)), trivial⟩
theorem s_l1All_hs : ∀ x, Tail c_s_l1All.pts (fun g => c_s_l1All.start g x) := fun x => by
    obtain ⟨l0, lo1, hi2, _⟩ := x
    refine Tail.eq (Y := fun g => s_l1All_t0 (fun r0 lo1 hi2 s10 s11 => g.1 ((r0, ()), (lo1, hi2, (), s10, s11, ()), ((), (), (), ()))) l0 lo1 hi2) ?_ (fun g => by kernel_rfl)
    simp only [s_l1All_t0]; repeat (first | exact Tail.const _ | exact Tail.here _ | exact Tail.there (Tail.here _) | exact Tail.there (Tail.there (Tail.here _)) | exact Tail.there (Tail.there (Tail.there (Tail.here _))) | exact Tail.there (Tail.there (Tail.there (Tail.there (Tail.here _)))) | exact Tail.there (Tail.there (Tail.there (Tail.there (Tail.there (Tail.here _))))) | apply Tail.cond | (apply Tail.bind; intro _))
noncomputable def s_l1All_L1 (r0 : List (Int)) (lo1 : Int) (hi2 : Int) (s10 : Int) (s11 : Int) : Option Bool := c_s_l1All.L.1 ((r0, ()), (lo1, hi2, (), s10, s11, ()), ((), (), (), ()))
theorem s_l1All_u1 (r0 : List (Int)) (lo1 : Int) (hi2 : Int) (s10 : Int) (s11 : Int) : s_l1All_L1 r0 lo1 hi2 s10 s11 = s_l1All_t1 s_l1All_L1 r0 lo1 hi2 s10 s11 :=
  (congrArg (fun g => g.1 ((r0, ()), (lo1, hi2, (), s10, s11, ()), ((), (), (), ()))) (FnCx.L_eq s_l1All_ts)).trans (by kernel_rfl)
noncomputable def s_l1All (l0 : List Int) (lo1 : Int) (hi2 : Int) : Option Bool := s_l1All_t0 s_l1All_L1 l0 lo1 hi2
theorem s_l1All_e (l0 : List Int) (lo1 : Int) (hi2 : Int) : c_s_l1All.start c_s_l1All.L (l0, lo1, hi2, ()) = s_l1All l0 lo1 hi2 := by kernel_rfl
-- NICE tot
noncomputable def s_l1All_n (l : List Int) (lo hi : Int) : Bool := l.all (inB lo hi)
theorem s_l1In_inB2 (x lo hi : Int) : s_l1In x lo hi = inB lo hi x := by
  unfold s_l1In inB
  cases h1 : decide (lo ≤ x) <;> simp_all
theorem s_l1All_ok (l : List Int) (lo hi : Int) (hb : BdI c_s_l1All.ins (l, lo, hi, ())) : s_l1All l lo hi = some (s_l1All_n l lo hi) := by
  have hm : l.length ≤ maxLen := hb.1.1
  have e := loop_any (L := fun i => s_l1All_L1 l lo hi l.length (i : Int)) (l := l) (p := fun x => !inB lo hi x) (a := false) (b := true)
    (fun i h => by simp only [s_l1All_u1 l lo hi l.length i, s_l1All_t1, rdk_get (k := kint) h, wrapS h hm, s_l1In_inB2]; simp [h]) (by simp [s_l1All_u1 l lo hi l.length l.length, s_l1All_t1])
  refine Eq.trans e (congrArg some ?_)
  unfold s_l1All_n
  rw [any_not]
noncomputable def F_s_l1All : Ins c_s_l1All.ins → Bool := fun x => s_l1All_n x.1 x.2.1 x.2.2.1
noncomputable def S_s_l1All : FSpec := mkT c_s_l1All.env.pre c_s_l1All.ins c_s_l1All.out c_s_l1All.inj F_s_l1All
theorem h_s_l1All : Cert Tryd.prog 43 S_s_l1All := FnCx.certT (c := c_s_l1All) F_s_l1All (tyOk _ _ _) (spOk ⟨h_s_l1In, fun _ _ h => h, trivial⟩) (fun _ _ _ _ _ hs => noDr_ok) Tryd.func43 rfl rfl Tryd.ntmps43 (by kernel_rfl) rfl rfl (fun _ => rfl) s_l1All_ts s_l1All_hs (fun x hb => by
  obtain ⟨l0, lo1, hi2, _⟩ := x
  exact (s_l1All_e l0 lo1 hi2).trans (s_l1All_ok l0 lo1 hi2 hb))
/-! spec.cpRolls -/
noncomputable def c_s_cpRolls : FnCx := { env := env 10 [(42, S_s_l1In), (43, S_s_l1All)] [], body := bodyOf Tryd.f24, res := [.tmp 2], ins := [.ro kSint], out := [(kbool, true)], T := Bool, fin := fun r => r.1.1, inj := fun t => ((t, ()), ((), ())), pts := [], fuel := 400, dr := noDr }
noncomputable def s_cpRolls (rolls0 : List Int) : Bool :=
  bif s_l1In (↑(List.length rolls0) : Int) 1 8 then s_l1All_n rolls0 1 2000 else false
theorem s_cpRolls_e (rolls0 : List Int) : c_s_cpRolls.start c_s_cpRolls.L (rolls0, ()) = some (s_cpRolls rolls0) := by
  refine Eq.trans (b := (bif s_l1In (↑(List.length rolls0) : Int) 1 8 then some (s_l1All_n rolls0 1 2000) else some false : Option Bool)) (by kernel_rfl) ?_
  unfold s_cpRolls
  repeat (first | rfl | apply condS)
noncomputable def F_s_cpRolls : Ins c_s_cpRolls.ins → Bool := fun x => s_cpRolls x.1
noncomputable def S_s_cpRolls : FSpec := mkT c_s_cpRolls.env.pre c_s_cpRolls.ins c_s_cpRolls.out c_s_cpRolls.inj F_s_cpRolls
theorem h_s_cpRolls : Cert Tryd.prog 24 S_s_cpRolls := FnCx.certT (c := c_s_cpRolls) F_s_cpRolls (tyOk _ _ _) (spOk ⟨h_s_l1In, fun _ _ h => h, ⟨h_s_l1All, fun _ _ h => h, trivial⟩⟩) (fun _ _ _ _ _ hs => noDr_ok) Tryd.func24 rfl rfl Tryd.ntmps24 (by kernel_rfl) rfl rfl (fun _ => rfl) trivial (fun x => .inl ⟨c_s_cpRolls.start () x, fun _ => rfl⟩) (fun x hb => by
  obtain ⟨rolls0, _⟩ := x
  exact s_cpRolls_e rolls0)
/-! spec.l1Num -/
noncomputable def SR_s_l1Num (RR : Int → Option (ByteArray)) : FSpec := mkF (T := ByteArray) textPre [.ro kint] [(kstring, true)] (fun t => ((t, ()), ((), ()))) (fun x => RR x.1)
noncomputable def c_s_l1Num (RR : Int → Option (ByteArray)) : FnCx := { env := env 20 [(44, SR_s_l1Num RR)] [], body := bodyOf Tryd.f44, res := [.tmp 2], ins := [.ro kint], out := [(kstring, true)], T := ByteArray, fin := fun r => r.1.1, inj := fun t => ((t, ()), ((), ())), pts := [], fuel := 400, dr := evDr (env 20 [(44, SR_s_l1Num RR)] []) }
noncomputable def s_l1Num (RR : Int → Option (ByteArray)) (n0 : Int) : Option ByteArray :=
  bif decide (n0 < 10) then
    some (List.foldl (fun r n => ByteArray.push r (UInt8.ofNat (Int.toNat n))) ByteArray.empty [IntKind.wrap IntKind.u8 (IntKind.wrap IntKind.i64 (48 + n0))])
  else
    Option.bind (RR (IntKind.wrap IntKind.i64 (Int.tdiv n0 10))) fun r =>
      bif
          Nat.ble
            (ByteArray.size r +
              ByteArray.size
                (List.foldl (fun r n => ByteArray.push r (UInt8.ofNat (Int.toNat n))) ByteArray.empty
                  [IntKind.wrap IntKind.u8 (IntKind.wrap IntKind.i64 (48 + Int.tmod n0 10))]))
            9223372036854775807 then
        some
          (r ++
            List.foldl (fun r n => ByteArray.push r (UInt8.ofNat (Int.toNat n))) ByteArray.empty
              [IntKind.wrap IntKind.u8 (IntKind.wrap IntKind.i64 (48 + Int.tmod n0 10))])
      else none
theorem s_l1Num_e (RR : Int → Option (ByteArray)) (n0 : Int) : (c_s_l1Num RR).start (c_s_l1Num RR).L (n0, ()) = (s_l1Num RR) n0 := by kernel_rfl
noncomputable def s_l1Num_it : Nat → Int → Option (ByteArray) := fun n => Nat.rec (fun _ => none) (fun _ RR => s_l1Num RR) n
theorem s_l1Num_is (n : Nat) (n0 : Int) : s_l1Num_it (n + 1) n0 = s_l1Num (s_l1Num_it n) n0 := rfl
theorem hh_s_l1Num : ∀ n, Cert Tryd.prog 44 (SR_s_l1Num (s_l1Num_it n))
  | 0 => cert_none Tryd.func44 rfl (by kernel_rfl) rfl rfl
  | n + 1 => FnCx.certF (c := c_s_l1Num (s_l1Num_it n)) (fun x => s_l1Num_it (n + 1) x.1) (tyOk _ _ _) (spOk ⟨hh_s_l1Num n, fun _ _ h => h, trivial⟩) (fun _ _ _ _ _ hs => evDr_ok (tyOk _ _ _) hs follows) Tryd.func44 rfl rfl Tryd.ntmps44 (by kernel_rfl) rfl rfl (fun _ => rfl) trivial (fun x => .inl ⟨(c_s_l1Num (s_l1Num_it n)).start () x, fun _ => rfl⟩) (fun x t hb ht => by
    obtain ⟨n0, _⟩ := x
    exact (s_l1Num_e (s_l1Num_it n) n0).trans ht)
-- NICE rec
theorem wrapU8 {n : Int} (h1 : 0 ≤ n) (h2 : n ≤ 255) : IntKind.wrap .u8 n = n := by
  unfold IntKind.wrap
  simp [IntKind.signed, IntKind.bits]
  omega
theorem bytes_app (a b : List UInt8) : (⟨a.toArray⟩ : ByteArray) ++ ⟨b.toArray⟩ = ⟨(a ++ b).toArray⟩ := ByteArray.ext (by rw [ByteArray.data_append]; simp)
theorem dec_len : ∀ u : Nat, (Lib.decDigits u).length ≤ u + 1 := by
  intro u
  induction u using Nat.strongRecOn with
  | ind u ih =>
    rw [Lib.decDigits]
    by_cases h : u < 10
    · rw [dif_pos h]; simp
    · rw [dif_neg h]
      have := ih (u / 10) (by omega)
      rw [List.length_append, List.length_singleton]; omega
theorem itoa_nat (n : Nat) : Lib.itoa (n : Int) = Lib.decDigits n := by
  unfold Lib.itoa
  rw [if_neg (by omega), Int.toNat_natCast]
theorem digit_eq {m : Nat} (h : m < 10) : List.foldl (fun r n => ByteArray.push r (UInt8.ofNat (Int.toNat n))) ByteArray.empty [IntKind.wrap .u8 (IntKind.wrap .i64 (48 + (m : Int)))] = ⟨([UInt8.ofNat (48 + m)] : List UInt8).toArray⟩ := by
  rw [wrapI (n := 48 + (m : Int)) (by omega) (by omega), wrapU8 (by omega) (by omega), show (48 + (m : Int)) = ((48 + m : Nat) : Int) by omega]
  simp only [List.foldl_cons, List.foldl_nil, Int.toNat_natCast]
  rfl
theorem num_it : ∀ (k n : Nat), n < k → n ≤ 4000000000000000000 → s_l1Num_it k (n : Int) = some ⟨(Lib.decDigits n).toArray⟩
  | 0, n, h, _ => by omega
  | k + 1, n, h, hn => by
    rw [s_l1Num_is, s_l1Num]
    by_cases h10 : n < 10
    · rw [decide_eq_true (show (n : Int) < 10 by omega), cond_true, digit_eq h10, Lib.decDigits, dif_pos h10]
    · have hm : Int.tmod (n : Int) 10 = ((n % 10 : Nat) : Int) := by rw [Int.tmod_eq_emod_of_nonneg (by omega)]; rfl
      have hd : Int.tdiv (n : Int) 10 = ((n / 10 : Nat) : Int) := by rw [Int.tdiv_eq_ediv_of_nonneg (by omega)]; rfl
      have ih := num_it k (n / 10) (by omega) (by omega)
      have hl := dec_len (n / 10)
      rw [decide_eq_false (show ¬ (n : Int) < 10 by omega), cond_false, hd, hm, wrapI (n := ((n / 10 : Nat) : Int)) (by omega) (by omega), ih, Option.bind_some, digit_eq (Nat.mod_lt n (by omega)), ble_dec, decide_eq_true, cond_true, bytes_app, Lib.decDigits.eq_def n, dif_neg h10]
      show (Lib.decDigits (n / 10)).toArray.size + 1 ≤ _
      simp; omega
noncomputable def s_l1Num_n (n : Int) : Option ByteArray := bif decide (0 ≤ n) && decide (n ≤ 4000000000000000000) then some ⟨(Lib.itoa n).toArray⟩ else none
theorem s_l1Num_ok (n : Int) (t : ByteArray) (h : s_l1Num_n n = some t) : ∃ k, s_l1Num_it k n = some t := by
  unfold s_l1Num_n at h
  cases hc : decide (0 ≤ n) && decide (n ≤ 4000000000000000000)
  · rw [hc] at h; cases h
  · rw [hc, cond_true] at h
    cases h
    rw [Bool.and_eq_true, decide_eq_true_eq, decide_eq_true_eq] at hc
    obtain ⟨m, rfl⟩ := Int.eq_ofNat_of_zero_le hc.1
    exact ⟨m + 1, by rw [num_it (m + 1) m (by omega) (by omega), itoa_nat]⟩
noncomputable def F_s_l1Num : Ins [.ro kint] → Option ByteArray := fun x => s_l1Num_n x.1
noncomputable def S_s_l1Num : FSpec := mkF (T := ByteArray) textPre [.ro kint] [(kstring, true)] (fun t => ((t, ()), ((), ()))) F_s_l1Num
theorem h_s_l1Num : Cert Tryd.prog 44 S_s_l1Num := cert_lim hh_s_l1Num (fun x t hb ht => by
  obtain ⟨n0, _⟩ := x
  exact s_l1Num_ok n0 t ht)
/-! spec.cpText -/
noncomputable def c_s_cpText : FnCx := { env := env 23 [(44, S_s_l1Num)] [], body := bodyOf Tryd.f25, res := [.tmp 2], ins := [.ro kSint], out := [(kstring, true)], T := ByteArray, fin := fun r => r.1.1, inj := fun t => ((t, ()), ((), ())), pts := [([.inLoop [1, 1, 0, 1, 0, 0], .inBlock 0, .code [1, 1, 1]], Shape.mk [Bs.row kint 3 false] [(3, Ss.one (Cs.sc kstring)), (6, Ss.one (Cs.sl 0)), (7, Ss.one (Cs.sc kint)), (8, Ss.one (Cs.sc kint))] [Ss.one (Cs.any)])], fuel := 400, dr := noDr }
noncomputable def s_cpText_t1 (g1 : List (Int) → ByteArray → Int → Int → Option (ByteArray)) (r0 : List (Int)) (out3 : ByteArray) (s7 : Int) (s8 : Int) : Option ByteArray :=
  bif decide (s8 < s7) then
    bif decide (0 ≤ s8) then
      bif decide (s8 < (↑(List.length r0) : Int)) then
        bif decide (s8 > 0) then
          bif Nat.ble (ByteArray.size out3 + ByteArray.size { data := #[43] }) 9223372036854775807 then
            Option.bind (s_l1Num_n (rdk kint r0 s8)) fun r =>
              bif Nat.ble (ByteArray.size (out3 ++ { data := #[43] }) + ByteArray.size r) 9223372036854775807 then
                g1 r0 (out3 ++ { data := #[43] } ++ r) s7 (IntKind.wrap IntKind.i64 (s8 + 1))
              else none
          else none
        else
          Option.bind (s_l1Num_n (rdk kint r0 s8)) fun r =>
            bif Nat.ble (ByteArray.size out3 + ByteArray.size r) 9223372036854775807 then g1 r0 (out3 ++ r) s7 (IntKind.wrap IntKind.i64 (s8 + 1)) else none
      else none
    else none
  else some out3
noncomputable def s_cpText_t0 (g1 : List (Int) → ByteArray → Int → Int → Option (ByteArray)) (rolls0 : List Int) : Option ByteArray :=
  g1 rolls0 { data := #[] } (↑(List.length rolls0) : Int) 0
theorem s_cpText_ts : Tails c_s_cpText.pts c_s_cpText.round :=
  ⟨fun s => by
    obtain ⟨⟨r0, _⟩, ⟨out3, _, s7, s8, _⟩, ⟨_, _⟩⟩ := s
    refine Tail.eq (Y := fun g => s_cpText_t1 (fun r0 out3 s7 s8 => g.1 ((r0, ()), (out3, (), s7, s8, ()), ((), ()))) r0 out3 s7 s8) ?_ (fun g => by kernel_rfl)
    simp only [s_cpText_t1]; repeat (first | apply Tail.cond | (apply Tail.bind; intro _) | exact Tail.here _ | exact Tail.there (Tail.here _) | exact Tail.there (Tail.there (Tail.here _)) | exact Tail.there (Tail.there (Tail.there (Tail.here _))) | exact Tail.there (Tail.there (Tail.there (Tail.there (Tail.here _)))) | exact Tail.there (Tail.there (Tail.there (Tail.there (Tail.there (Tail.here _))))) | exact Tail.const _), trivial⟩
theorem s_cpText_hs : ∀ x, Tail c_s_cpText.pts (fun g => c_s_cpText.start g x) := fun x => by
    obtain ⟨rolls0, _⟩ := x
    refine Tail.eq (Y := fun g => s_cpText_t0 (fun r0 out3 s7 s8 => g.1 ((r0, ()), (out3, (), s7, s8, ()), ((), ()))) rolls0) ?_ (fun g => by kernel_rfl)
    simp only [s_cpText_t0]; repeat (first | apply Tail.cond | (apply Tail.bind; intro _) | exact Tail.here _ | exact Tail.there (Tail.here _) | exact Tail.there (Tail.there (Tail.here _)) | exact Tail.there (Tail.there (Tail.there (Tail.here _))) | exact Tail.there (Tail.there (Tail.there (Tail.there (Tail.here _)))) | exact Tail.there (Tail.there (Tail.there (Tail.there (Tail.there (Tail.here _))))) | exact Tail.const _)
noncomputable def s_cpText_L1 (r0 : List (Int)) (out3 : ByteArray) (s7 : Int) (s8 : Int) : Option ByteArray := c_s_cpText.L.1 ((r0, ()), (out3, (), s7, s8, ()), ((), ()))
theorem s_cpText_u1 (r0 : List (Int)) (out3 : ByteArray) (s7 : Int) (s8 : Int) : s_cpText_L1 r0 out3 s7 s8 = s_cpText_t1 s_cpText_L1 r0 out3 s7 s8 :=
  (congrArg (fun g => g.1 ((r0, ()), (out3, (), s7, s8, ()), ((), ()))) (FnCx.L_eq s_cpText_ts)).trans (by kernel_rfl)
noncomputable def s_cpText (rolls0 : List Int) : Option ByteArray := s_cpText_t0 s_cpText_L1 rolls0
theorem s_cpText_e (rolls0 : List Int) : c_s_cpText.start c_s_cpText.L (rolls0, ()) = s_cpText rolls0 := by kernel_rfl
noncomputable def F_s_cpText : Ins c_s_cpText.ins → Option ByteArray := fun x => s_cpText x.1
noncomputable def S_s_cpText : FSpec := mkF c_s_cpText.env.pre c_s_cpText.ins c_s_cpText.out c_s_cpText.inj F_s_cpText
theorem h_s_cpText : Cert Tryd.prog 25 S_s_cpText := FnCx.certF (c := c_s_cpText) F_s_cpText (tyOk _ _ _) (spOk ⟨h_s_l1Num, fun _ _ h => h, trivial⟩) (fun _ _ _ _ _ hs => noDr_ok) Tryd.func25 rfl rfl Tryd.ntmps25 (by kernel_rfl) rfl rfl (fun _ => rfl) s_cpText_ts s_cpText_hs (fun x t hb ht => by
  obtain ⟨rolls0, _⟩ := x
  exact (s_cpText_e rolls0).trans ht)
/-! spec.ParseRolls -/
noncomputable def c_s_ParseRolls : FnCx := { env := env 33 [(35, S_s_l1Split), (36, S_s_l1Read), (24, S_s_cpRolls), (25, S_s_cpText)] [], body := bodyOf Tryd.f16, res := [.tmp 2, .tmp 3], ins := [.ro kstring], out := [(kSint, true), (kbool, true)], T := List Int × Bool, fin := fun r => (r.1.1, r.1.2.1), inj := fun t => ((t.1, t.2, ()), ((), ())), pts := [([.inLoop [1, 1, 1, 0, 1, 0, 0], .inBlock 0, .code [1, 1, 1, 1]], Shape.mk [Bs.row kint 3 true, Bs.row kstring 9 true] [(0, Ss.one (Cs.sc kstring)), (4, Ss.one (Cs.sl 0)), (11, Ss.one (Cs.sl 1)), (12, Ss.one (Cs.sc kint)), (13, Ss.one (Cs.sc kint))] [Ss.one (Cs.any)])], fuel := 400, dr := noDr }
noncomputable def s_ParseRolls_t1 (g1 : List (Int) → List (ByteArray) → ByteArray → Int → Int → Option (List Int × Bool)) (r0 : List (Int)) (r1 : List (ByteArray)) (s0 : ByteArray) (s12 : Int) (s13 : Int) : Option (List Int × Bool) :=
  bif decide (s13 < s12) then
    bif decide (0 ≤ s13) then
      bif decide (s13 < (↑(List.length r1) : Int)) then
        Option.bind (s_l1Read (rdk kstring r1 s13)) fun r =>
          bif Nat.ble (List.length r0 + 1) 4294967296 then g1 (r0 ++ [r]) r1 s0 s12 (IntKind.wrap IntKind.i64 (s13 + 1)) else none
      else none
    else none
  else
    bif !s_cpRolls r0 then some ([], false)
    else Option.bind (s_cpText r0) fun r => bif !ByteArray.toList r == ByteArray.toList s0 then some ([], false) else some (r0, true)
noncomputable def s_ParseRolls_t0 (g1 : List (Int) → List (ByteArray) → ByteArray → Int → Int → Option (List Int × Bool)) (s0 : ByteArray) : Option (List Int × Bool) :=
  bif decide ((↑(ByteArray.size s0) : Int) > 40) then some ([], false) else Option.bind (s_l1Split s0 43) fun r => g1 [] r s0 (↑(List.length r) : Int) 0
theorem s_ParseRolls_ts : Tails c_s_ParseRolls.pts c_s_ParseRolls.round :=
  ⟨fun s => by
    obtain ⟨⟨r0, r1, _⟩, ⟨s0, _, _, s12, s13, _⟩, ⟨_, _⟩⟩ := s
    refine Tail.eq (Y := fun g => s_ParseRolls_t1 (fun r0 r1 s0 s12 s13 => g.1 ((r0, r1, ()), (s0, (), (), s12, s13, ()), ((), ()))) r0 r1 s0 s12 s13) ?_ (fun g => by kernel_rfl)
    simp only [s_ParseRolls_t1]; repeat (first | apply Tail.cond | (apply Tail.bind; intro _) | exact Tail.here _ | exact Tail.there (Tail.here _) | exact Tail.there (Tail.there (Tail.here _)) | exact Tail.there (Tail.there (Tail.there (Tail.here _))) | exact Tail.there (Tail.there (Tail.there (Tail.there (Tail.here _)))) | exact Tail.there (Tail.there (Tail.there (Tail.there (Tail.there (Tail.here _))))) | exact Tail.const _), trivial⟩
theorem s_ParseRolls_hs : ∀ x, Tail c_s_ParseRolls.pts (fun g => c_s_ParseRolls.start g x) := fun x => by
    obtain ⟨s0, _⟩ := x
    refine Tail.eq (Y := fun g => s_ParseRolls_t0 (fun r0 r1 s0 s12 s13 => g.1 ((r0, r1, ()), (s0, (), (), s12, s13, ()), ((), ()))) s0) ?_ (fun g => by kernel_rfl)
    simp only [s_ParseRolls_t0]; repeat (first | apply Tail.cond | (apply Tail.bind; intro _) | exact Tail.here _ | exact Tail.there (Tail.here _) | exact Tail.there (Tail.there (Tail.here _)) | exact Tail.there (Tail.there (Tail.there (Tail.here _))) | exact Tail.there (Tail.there (Tail.there (Tail.there (Tail.here _)))) | exact Tail.there (Tail.there (Tail.there (Tail.there (Tail.there (Tail.here _))))) | exact Tail.const _)
noncomputable def s_ParseRolls_L1 (r0 : List (Int)) (r1 : List (ByteArray)) (s0 : ByteArray) (s12 : Int) (s13 : Int) : Option (List Int × Bool) := c_s_ParseRolls.L.1 ((r0, r1, ()), (s0, (), (), s12, s13, ()), ((), ()))
theorem s_ParseRolls_u1 (r0 : List (Int)) (r1 : List (ByteArray)) (s0 : ByteArray) (s12 : Int) (s13 : Int) : s_ParseRolls_L1 r0 r1 s0 s12 s13 = s_ParseRolls_t1 s_ParseRolls_L1 r0 r1 s0 s12 s13 :=
  (congrArg (fun g => g.1 ((r0, r1, ()), (s0, (), (), s12, s13, ()), ((), ()))) (FnCx.L_eq s_ParseRolls_ts)).trans (by kernel_rfl)
noncomputable def s_ParseRolls (s0 : ByteArray) : Option (List Int × Bool) := s_ParseRolls_t0 s_ParseRolls_L1 s0
theorem s_ParseRolls_e (s0 : ByteArray) : c_s_ParseRolls.start c_s_ParseRolls.L (s0, ()) = s_ParseRolls s0 := by kernel_rfl
noncomputable def F_s_ParseRolls : Ins c_s_ParseRolls.ins → Option (List Int × Bool) := fun x => s_ParseRolls x.1
noncomputable def S_s_ParseRolls : FSpec := mkF c_s_ParseRolls.env.pre c_s_ParseRolls.ins c_s_ParseRolls.out c_s_ParseRolls.inj F_s_ParseRolls
theorem h_s_ParseRolls : Cert Tryd.prog 16 S_s_ParseRolls := FnCx.certF (c := c_s_ParseRolls) F_s_ParseRolls (tyOk _ _ _) (spOk ⟨h_s_l1Split, fun _ _ h => h, ⟨h_s_l1Read, fun _ _ h => h, ⟨h_s_cpRolls, fun _ _ h => h, ⟨h_s_cpText, fun _ _ h => h, trivial⟩⟩⟩⟩) (fun _ _ _ _ _ hs => noDr_ok) Tryd.func16 rfl rfl Tryd.ntmps16 (by kernel_rfl) rfl rfl (fun _ => rfl) s_ParseRolls_ts s_ParseRolls_hs (fun x t hb ht => by
  obtain ⟨s0, _⟩ := x
  exact (s_ParseRolls_e s0).trans ht)
/-! strings.Split -/
noncomputable def strings_Split (s sep : ByteArray) : Option (List ByteArray) := splitF s sep
noncomputable def F_strings_Split : Ins [.ro kstring, .ro kstring] → Option (List ByteArray) := fun x => strings_Split x.1 x.2.1
noncomputable def S_strings_Split : FSpec := mkF (T := List ByteArray) textPre [.ro kstring, .ro kstring] [(kSstring, true)] (fun t => ((t, ()), ((), (), ()))) F_strings_Split
theorem h_strings_Split : Cert Tryd.prog 39 S_strings_Split := split_cert (show Lays.n146 Tryd.prog lsplit_ren from { lsplit with }) (by kernel_rfl) rfl rfl ⟨_, Tryd.func39, rfl, by kernel_rfl⟩ (by simp [textL]) (by kernel_rfl)
/-! strconv.Atoi -/
noncomputable def strconv_Atoi (s : ByteArray) : Option (Int × Bool) := atoiF s
noncomputable def F_strconv_Atoi : Ins [.ro kstring] → Option (Int × Bool) := fun x => strconv_Atoi x.1
noncomputable def S_strconv_Atoi : FSpec := mkF (T := Int × Bool) textPre [.ro kstring] [(.int .i64, true), (.err, true)] (fun t => ((t.1, t.2, ()), ((), ()))) F_strconv_Atoi
theorem h_strconv_Atoi : Cert Tryd.prog 66 S_strconv_Atoi := atoi_cert rfl latoi rfl ⟨_, Tryd.func66, rfl, by kernel_rfl⟩ (by simp [textL]) (by kernel_rfl) (by simp [textL]) (by kernel_rfl)
/-! strconv.Itoa -/
noncomputable def strconv_Itoa (n : Int) : Option ByteArray := itoaF n
noncomputable def F_strconv_Itoa : Ins [.ro kint] → Option ByteArray := fun x => strconv_Itoa x.1
noncomputable def S_strconv_Itoa : FSpec := mkF (T := ByteArray) textPre [.ro kint] [(.str, true)] (fun t => ((t, ()), ((), ()))) F_strconv_Itoa
theorem h_strconv_Itoa : Cert Tryd.prog 49 S_strconv_Itoa := itoa_cert litoa rfl ⟨_, Tryd.func49, rfl, by kernel_rfl⟩ (by simp [textL])
/-! impl.num -/
noncomputable def c_i_num : FnCx := { env := env 27 [(66, S_strconv_Atoi), (49, S_strconv_Itoa)] [], body := bodyOf Tryd.f59, res := [.tmp 2], ins := [.ro kstring], out := [(kint, true)], T := Int, fin := fun r => r.1.1, inj := fun t => ((t, ()), ((), ())), pts := [], fuel := 400, dr := noDr }
noncomputable def i_num (s0 : ByteArray) : Option Int :=
  Option.bind (strconv_Atoi s0) fun r =>
    bif !Prod.snd r then some (-1)
    else
      bif decide (Prod.fst r < 0) then some (-1)
      else
        bif decide (Prod.fst r > 999999) then some (-1)
        else Option.bind (strconv_Itoa (Prod.fst r)) fun r_1 => bif !ByteArray.toList r_1 == ByteArray.toList s0 then some (-1) else some (Prod.fst r)
theorem i_num_e (s0 : ByteArray) : c_i_num.start c_i_num.L (s0, ()) = i_num s0 := by kernel_rfl
noncomputable def F_i_num : Ins c_i_num.ins → Option Int := fun x => i_num x.1
noncomputable def S_i_num : FSpec := mkF c_i_num.env.pre c_i_num.ins c_i_num.out c_i_num.inj F_i_num
theorem h_i_num : Cert Tryd.prog 59 S_i_num := FnCx.certF (c := c_i_num) F_i_num (tyOk _ _ _) (spOk ⟨h_strconv_Atoi, fun _ _ h => h, ⟨h_strconv_Itoa, fun _ _ h => h, trivial⟩⟩) (fun _ _ _ _ _ hs => noDr_ok) Tryd.func59 rfl rfl Tryd.ntmps59 (by kernel_rfl) rfl rfl (fun _ => rfl) trivial (fun x => .inl ⟨c_i_num.start () x, fun _ => rfl⟩) (fun x t hb ht => by
  obtain ⟨s0, _⟩ := x
  exact (i_num_e s0).trans ht)
/-! impl.nums -/
noncomputable def c_i_nums : FnCx := { env := env 29 [(39, S_strings_Split), (59, S_i_num)] [], body := bodyOf Tryd.f37, res := [.tmp 4, .tmp 5], ins := [.ro kstring, .ro kstring], out := [(kSint, true), (kbool, true)], T := List Int × Bool, fin := fun r => (r.1.1, r.1.2.1), inj := fun t => ((t.1, t.2, ()), ((), (), ())), pts := [([.inLoop [1, 1, 0, 1, 0, 0], .inBlock 0, .code [1, 1, 1]], Shape.mk [Bs.row kint 3 true, Bs.row kstring 9 true] [(6, Ss.one (Cs.sl 0)), (13, Ss.one (Cs.sl 1)), (14, Ss.one (Cs.sc kint)), (15, Ss.one (Cs.sc kint))] [Ss.one (Cs.any), Ss.one (Cs.any)])], fuel := 400, dr := noDr }
noncomputable def i_nums_t1 (g1 : List (Int) → List (ByteArray) → Int → Int → Option (List Int × Bool)) (r0 : List (Int)) (r1 : List (ByteArray)) (s14 : Int) (s15 : Int) : Option (List Int × Bool) :=
  bif decide (s15 < s14) then
    bif decide (0 ≤ s15) then
      bif decide (s15 < (↑(List.length r1) : Int)) then
        Option.bind (i_num (rdk kstring r1 s15)) fun r =>
          bif decide (r < 0) then some ([], false)
          else bif Nat.ble (List.length r0 + 1) 4294967296 then g1 (r0 ++ [r]) r1 s14 (IntKind.wrap IntKind.i64 (s15 + 1)) else none
      else none
    else none
  else some (r0, true)
noncomputable def i_nums_t0 (g1 : List (Int) → List (ByteArray) → Int → Int → Option (List Int × Bool)) (s0 : ByteArray) (between1 : ByteArray) : Option (List Int × Bool) :=
  Option.bind (strings_Split s0 between1) fun r => g1 [] r (↑(List.length r) : Int) 0
theorem i_nums_ts : Tails c_i_nums.pts c_i_nums.round :=
  ⟨fun s => by
    obtain ⟨⟨r0, r1, _⟩, ⟨_, _, s14, s15, _⟩, ⟨_, _, _⟩⟩ := s
    refine Tail.eq (Y := fun g => i_nums_t1 (fun r0 r1 s14 s15 => g.1 ((r0, r1, ()), ((), (), s14, s15, ()), ((), (), ()))) r0 r1 s14 s15) ?_ (fun g => by kernel_rfl)
    simp only [i_nums_t1]; repeat (first | exact Tail.const _ | exact Tail.here _ | exact Tail.there (Tail.here _) | exact Tail.there (Tail.there (Tail.here _)) | exact Tail.there (Tail.there (Tail.there (Tail.here _))) | exact Tail.there (Tail.there (Tail.there (Tail.there (Tail.here _)))) | exact Tail.there (Tail.there (Tail.there (Tail.there (Tail.there (Tail.here _))))) | apply Tail.cond | (apply Tail.bind; intro _)), trivial⟩
theorem i_nums_hs : ∀ x, Tail c_i_nums.pts (fun g => c_i_nums.start g x) := fun x => by
    obtain ⟨s0, between1, _⟩ := x
    refine Tail.eq (Y := fun g => i_nums_t0 (fun r0 r1 s14 s15 => g.1 ((r0, r1, ()), ((), (), s14, s15, ()), ((), (), ()))) s0 between1) ?_ (fun g => by kernel_rfl)
    simp only [i_nums_t0]; repeat (first | exact Tail.const _ | exact Tail.here _ | exact Tail.there (Tail.here _) | exact Tail.there (Tail.there (Tail.here _)) | exact Tail.there (Tail.there (Tail.there (Tail.here _))) | exact Tail.there (Tail.there (Tail.there (Tail.there (Tail.here _)))) | exact Tail.there (Tail.there (Tail.there (Tail.there (Tail.there (Tail.here _))))) | apply Tail.cond | (apply Tail.bind; intro _))
noncomputable def i_nums_L1 (r0 : List (Int)) (r1 : List (ByteArray)) (s14 : Int) (s15 : Int) : Option (List Int × Bool) := c_i_nums.L.1 ((r0, r1, ()), ((), (), s14, s15, ()), ((), (), ()))
theorem i_nums_u1 (r0 : List (Int)) (r1 : List (ByteArray)) (s14 : Int) (s15 : Int) : i_nums_L1 r0 r1 s14 s15 = i_nums_t1 i_nums_L1 r0 r1 s14 s15 :=
  (congrArg (fun g => g.1 ((r0, r1, ()), ((), (), s14, s15, ()), ((), (), ()))) (FnCx.L_eq i_nums_ts)).trans (by kernel_rfl)
noncomputable def i_nums (s0 : ByteArray) (between1 : ByteArray) : Option (List Int × Bool) := i_nums_t0 i_nums_L1 s0 between1
theorem i_nums_e (s0 : ByteArray) (between1 : ByteArray) : c_i_nums.start c_i_nums.L (s0, between1, ()) = i_nums s0 between1 := by kernel_rfl
noncomputable def F_i_nums : Ins c_i_nums.ins → Option (List Int × Bool) := fun x => i_nums x.1 x.2.1
noncomputable def S_i_nums : FSpec := mkF c_i_nums.env.pre c_i_nums.ins c_i_nums.out c_i_nums.inj F_i_nums
theorem h_i_nums : Cert Tryd.prog 37 S_i_nums := FnCx.certF (c := c_i_nums) F_i_nums (tyOk _ _ _) (spOk ⟨h_strings_Split, fun _ _ h => h, ⟨h_i_num, fun _ _ h => h, trivial⟩⟩) (fun _ _ _ _ _ hs => noDr_ok) Tryd.func37 rfl rfl Tryd.ntmps37 (by kernel_rfl) rfl rfl (fun _ => rfl) i_nums_ts i_nums_hs (fun x t hb ht => by
  obtain ⟨s0, between1, _⟩ := x
  exact (i_nums_e s0 between1).trans ht)
/-! impl.within -/
noncomputable def c_i_within : FnCx := { env := env 15 [] [], body := bodyOf Tryd.f45, res := [.tmp 6], ins := [.ro kint, .ro kint, .ro kint], out := [(kbool, true)], T := Bool, fin := fun r => r.1.1, inj := fun t => ((t, ()), ((), (), (), ())), pts := [], fuel := 400, dr := noDr }
noncomputable def i_within (n0 : Int) (low1 : Int) (high2 : Int) : Bool :=
  bif decide (low1 ≤ n0) then decide (n0 ≤ high2) else false
theorem i_within_e (n0 : Int) (low1 : Int) (high2 : Int) : c_i_within.start c_i_within.L (n0, low1, high2, ()) = some (i_within n0 low1 high2) := by
  refine Eq.trans (b := (bif decide (low1 ≤ n0) then some (decide (n0 ≤ high2)) else some false : Option Bool)) (by kernel_rfl) ?_
  unfold i_within
  repeat (first | rfl | apply condS)
noncomputable def F_i_within : Ins c_i_within.ins → Bool := fun x => i_within x.1 x.2.1 x.2.2.1
noncomputable def S_i_within : FSpec := mkT c_i_within.env.pre c_i_within.ins c_i_within.out c_i_within.inj F_i_within
theorem h_i_within : Cert Tryd.prog 45 S_i_within := FnCx.certT (c := c_i_within) F_i_within (tyOk _ _ _) (spOk trivial) (fun _ _ _ _ _ hs => noDr_ok) Tryd.func45 rfl rfl Tryd.ntmps45 (by kernel_rfl) rfl rfl (fun _ => rfl) trivial (fun x => .inl ⟨c_i_within.start () x, fun _ => rfl⟩) (fun x hb => by
  obtain ⟨n0, low1, high2, _⟩ := x
  exact i_within_e n0 low1 high2)
/-! impl.isRoll -/
noncomputable def c_i_isRoll : FnCx := { env := env 5 [(45, S_i_within)] [], body := bodyOf Tryd.f48, res := [.tmp 2], ins := [.ro kint], out := [(kbool, true)], T := Bool, fin := fun r => r.1.1, inj := fun t => ((t, ()), ((), ())), pts := [], fuel := 400, dr := noDr }
noncomputable def i_isRoll (n0 : Int) : Bool :=
  i_within n0 1 2000
theorem i_isRoll_e (n0 : Int) : c_i_isRoll.start c_i_isRoll.L (n0, ()) = some (i_isRoll n0) := by kernel_rfl
noncomputable def F_i_isRoll : Ins c_i_isRoll.ins → Bool := fun x => i_isRoll x.1
noncomputable def S_i_isRoll : FSpec := mkT c_i_isRoll.env.pre c_i_isRoll.ins c_i_isRoll.out c_i_isRoll.inj F_i_isRoll
theorem h_i_isRoll : Cert Tryd.prog 48 S_i_isRoll := FnCx.certT (c := c_i_isRoll) F_i_isRoll (tyOk _ _ _) (spOk ⟨h_i_within, fun _ _ h => h, trivial⟩) (fun _ _ _ _ _ hs => noDr_ok) Tryd.func48 rfl rfl Tryd.ntmps48 (by kernel_rfl) rfl rfl (fun _ => rfl) trivial (fun x => .inl ⟨c_i_isRoll.start () x, fun _ => rfl⟩) (fun x hb => by
  obtain ⟨n0, _⟩ := x
  exact i_isRoll_e n0)
/-! impl.AreRolls$1 -/
noncomputable def c_i_AreRolls_c1 : FnCx := { env := env 6 [(48, S_i_isRoll)] [], body := bodyOf Tryd.f47, res := [.tmp 2], ins := [.ro kint], out := [(kbool, true)], T := Bool, fin := fun r => r.1.1, inj := fun t => ((t, ()), ((), ())), pts := [], fuel := 400, dr := noDr }
noncomputable def i_AreRolls_c1 (n0 : Int) : Bool :=
  !i_isRoll n0
theorem i_AreRolls_c1_e (n0 : Int) : c_i_AreRolls_c1.start c_i_AreRolls_c1.L (n0, ()) = some (i_AreRolls_c1 n0) := by kernel_rfl
noncomputable def F_i_AreRolls_c1 : Ins c_i_AreRolls_c1.ins → Bool := fun x => i_AreRolls_c1 x.1
noncomputable def S_i_AreRolls_c1 : FSpec := mkT c_i_AreRolls_c1.env.pre c_i_AreRolls_c1.ins c_i_AreRolls_c1.out c_i_AreRolls_c1.inj F_i_AreRolls_c1
theorem h_i_AreRolls_c1 : Cert Tryd.prog 47 S_i_AreRolls_c1 := FnCx.certT (c := c_i_AreRolls_c1) F_i_AreRolls_c1 (tyOk _ _ _) (spOk ⟨h_i_isRoll, fun _ _ h => h, trivial⟩) (fun _ _ _ _ _ hs => noDr_ok) Tryd.func47 rfl rfl Tryd.ntmps47 (by kernel_rfl) rfl rfl (fun _ => rfl) trivial (fun x => .inl ⟨c_i_AreRolls_c1.start () x, fun _ => rfl⟩) (fun x hb => by
  obtain ⟨n0, _⟩ := x
  exact i_AreRolls_c1_e n0)
/-! slices.IndexFunc[[]int,int] -/
noncomputable def c_slices_IndexFunc_int__i_AreRolls_c1 : FnCx := { env := env 19 [(47, S_i_AreRolls_c1)] [], body := bodyOf Tryd.f61, res := [.tmp 4], ins := [.ro kSint, .fn 47 []], out := [(kint, true)], T := Int, fin := fun r => r.1.1, inj := fun t => ((t, ()), ((), (), ())), pts := [([.inLoop [1, 0, 1, 0, 0], .inBlock 0, .code [1, 1]], Shape.mk [Bs.row kint 3 false] [(0, Ss.one (Cs.sl 0)), (1, Ss.fn 47 []), (7, Ss.one (Cs.sc kint)), (8, Ss.one (Cs.sc kint))] [Ss.one (Cs.any), Ss.fn 47 []])], fuel := 400, dr := noDr }
noncomputable def slices_IndexFunc_int__i_AreRolls_c1_t1 (g1 : List (Int) → Int → Int → Option (Int)) (r0 : List (Int)) (s7 : Int) (s8 : Int) : Option Int :=
  bif decide (s8 < s7) then
    bif decide (0 ≤ s8) then
      bif decide (s8 < (↑(List.length r0) : Int)) then
        bif i_AreRolls_c1 (rdk kint r0 s8) then some s8 else g1 r0 s7 (IntKind.wrap IntKind.i64 (s8 + 1))
      else none
    else none
  else some (-1)
noncomputable def slices_IndexFunc_int__i_AreRolls_c1_t0 (g1 : List (Int) → Int → Int → Option (Int)) (s0 : List Int) : Option Int :=
  g1 s0 (↑(List.length s0) : Int) 0
theorem slices_IndexFunc_int__i_AreRolls_c1_ts : Tails c_slices_IndexFunc_int__i_AreRolls_c1.pts c_slices_IndexFunc_int__i_AreRolls_c1.round :=
  ⟨fun s => by
    obtain ⟨⟨r0, _⟩, ⟨_, _, s7, s8, _⟩, ⟨_, _, _⟩⟩ := s
    refine Tail.eq (Y := fun g => slices_IndexFunc_int__i_AreRolls_c1_t1 (fun r0 s7 s8 => g.1 ((r0, ()), ((), (), s7, s8, ()), ((), (), ()))) r0 s7 s8) ?_ (fun g => by kernel_rfl)
    simp only [slices_IndexFunc_int__i_AreRolls_c1_t1]; repeat (first | exact Tail.const _ | exact Tail.here _ | exact Tail.there (Tail.here _) | exact Tail.there (Tail.there (Tail.here _)) | exact Tail.there (Tail.there (Tail.there (Tail.here _))) | exact Tail.there (Tail.there (Tail.there (Tail.there (Tail.here _)))) | exact Tail.there (Tail.there (Tail.there (Tail.there (Tail.there (Tail.here _))))) | apply Tail.cond | (apply Tail.bind; intro _)), trivial⟩
theorem slices_IndexFunc_int__i_AreRolls_c1_hs : ∀ x, Tail c_slices_IndexFunc_int__i_AreRolls_c1.pts (fun g => c_slices_IndexFunc_int__i_AreRolls_c1.start g x) := fun x => by
    obtain ⟨s0, _, _⟩ := x
    refine Tail.eq (Y := fun g => slices_IndexFunc_int__i_AreRolls_c1_t0 (fun r0 s7 s8 => g.1 ((r0, ()), ((), (), s7, s8, ()), ((), (), ()))) s0) ?_ (fun g => by kernel_rfl)
    simp only [slices_IndexFunc_int__i_AreRolls_c1_t0]; repeat (first | exact Tail.const _ | exact Tail.here _ | exact Tail.there (Tail.here _) | exact Tail.there (Tail.there (Tail.here _)) | exact Tail.there (Tail.there (Tail.there (Tail.here _))) | exact Tail.there (Tail.there (Tail.there (Tail.there (Tail.here _)))) | exact Tail.there (Tail.there (Tail.there (Tail.there (Tail.there (Tail.here _))))) | apply Tail.cond | (apply Tail.bind; intro _))
noncomputable def slices_IndexFunc_int__i_AreRolls_c1_L1 (r0 : List (Int)) (s7 : Int) (s8 : Int) : Option Int := c_slices_IndexFunc_int__i_AreRolls_c1.L.1 ((r0, ()), ((), (), s7, s8, ()), ((), (), ()))
theorem slices_IndexFunc_int__i_AreRolls_c1_u1 (r0 : List (Int)) (s7 : Int) (s8 : Int) : slices_IndexFunc_int__i_AreRolls_c1_L1 r0 s7 s8 = slices_IndexFunc_int__i_AreRolls_c1_t1 slices_IndexFunc_int__i_AreRolls_c1_L1 r0 s7 s8 :=
  (congrArg (fun g => g.1 ((r0, ()), ((), (), s7, s8, ()), ((), (), ()))) (FnCx.L_eq slices_IndexFunc_int__i_AreRolls_c1_ts)).trans (by kernel_rfl)
noncomputable def slices_IndexFunc_int__i_AreRolls_c1 (s0 : List Int) : Option Int := slices_IndexFunc_int__i_AreRolls_c1_t0 slices_IndexFunc_int__i_AreRolls_c1_L1 s0
theorem slices_IndexFunc_int__i_AreRolls_c1_e (s0 : List Int) : c_slices_IndexFunc_int__i_AreRolls_c1.start c_slices_IndexFunc_int__i_AreRolls_c1.L (s0, (), ()) = slices_IndexFunc_int__i_AreRolls_c1 s0 := by kernel_rfl
-- NICE tot
noncomputable def slices_IndexFunc_int__i_AreRolls_c1_n (l : List Int) : Int := idxF (fun x => i_AreRolls_c1 x) l 0
theorem slices_IndexFunc_int__i_AreRolls_c1_ok (l : List Int) (hb : BdI c_slices_IndexFunc_int__i_AreRolls_c1.ins (l, (), ())) : slices_IndexFunc_int__i_AreRolls_c1 l = some (slices_IndexFunc_int__i_AreRolls_c1_n l) :=
  have hm : l.length ≤ maxLen := hb.1.1
  loop_idx (L := fun i => slices_IndexFunc_int__i_AreRolls_c1_L1 l l.length (i : Int)) (l := l) (p := fun x => i_AreRolls_c1 x)
    (fun i h => by simp only [slices_IndexFunc_int__i_AreRolls_c1_u1 l l.length i, slices_IndexFunc_int__i_AreRolls_c1_t1, rdk_get (k := kint) h, wrapS h hm]; simp [h]) (by simp [slices_IndexFunc_int__i_AreRolls_c1_u1 l l.length l.length, slices_IndexFunc_int__i_AreRolls_c1_t1])
noncomputable def F_slices_IndexFunc_int__i_AreRolls_c1 : Ins c_slices_IndexFunc_int__i_AreRolls_c1.ins → Int := fun x => slices_IndexFunc_int__i_AreRolls_c1_n x.1
noncomputable def S_slices_IndexFunc_int__i_AreRolls_c1 : FSpec := mkT c_slices_IndexFunc_int__i_AreRolls_c1.env.pre c_slices_IndexFunc_int__i_AreRolls_c1.ins c_slices_IndexFunc_int__i_AreRolls_c1.out c_slices_IndexFunc_int__i_AreRolls_c1.inj F_slices_IndexFunc_int__i_AreRolls_c1
theorem h_slices_IndexFunc_int__i_AreRolls_c1 : Cert Tryd.prog 61 S_slices_IndexFunc_int__i_AreRolls_c1 := FnCx.certT (c := c_slices_IndexFunc_int__i_AreRolls_c1) F_slices_IndexFunc_int__i_AreRolls_c1 (tyOk _ _ _) (spOk ⟨h_i_AreRolls_c1, fun _ _ h => h, trivial⟩) (fun _ _ _ _ _ hs => noDr_ok) Tryd.func61 rfl rfl Tryd.ntmps61 (by kernel_rfl) rfl rfl (fun _ => rfl) slices_IndexFunc_int__i_AreRolls_c1_ts slices_IndexFunc_int__i_AreRolls_c1_hs (fun x hb => by
  obtain ⟨s0, _, _⟩ := x
  exact (slices_IndexFunc_int__i_AreRolls_c1_e s0).trans (slices_IndexFunc_int__i_AreRolls_c1_ok s0 hb))
/-! slices.ContainsFunc[[]int,int] -/
noncomputable def c_slices_ContainsFunc_int__i_AreRolls_c1 : FnCx := { env := env 9 [(61, S_slices_IndexFunc_int__i_AreRolls_c1)] [], body := bodyOf Tryd.f46, res := [.tmp 4], ins := [.ro kSint, .fn 47 []], out := [(kbool, true)], T := Bool, fin := fun r => r.1.1, inj := fun t => ((t, ()), ((), (), ())), pts := [], fuel := 400, dr := noDr }
noncomputable def slices_ContainsFunc_int__i_AreRolls_c1 (s0 : List Int) : Bool :=
  decide (slices_IndexFunc_int__i_AreRolls_c1_n s0 ≥ 0)
theorem slices_ContainsFunc_int__i_AreRolls_c1_e (s0 : List Int) : c_slices_ContainsFunc_int__i_AreRolls_c1.start c_slices_ContainsFunc_int__i_AreRolls_c1.L (s0, (), ()) = some (slices_ContainsFunc_int__i_AreRolls_c1 s0) := by kernel_rfl
noncomputable def F_slices_ContainsFunc_int__i_AreRolls_c1 : Ins c_slices_ContainsFunc_int__i_AreRolls_c1.ins → Bool := fun x => slices_ContainsFunc_int__i_AreRolls_c1 x.1
noncomputable def S_slices_ContainsFunc_int__i_AreRolls_c1 : FSpec := mkT c_slices_ContainsFunc_int__i_AreRolls_c1.env.pre c_slices_ContainsFunc_int__i_AreRolls_c1.ins c_slices_ContainsFunc_int__i_AreRolls_c1.out c_slices_ContainsFunc_int__i_AreRolls_c1.inj F_slices_ContainsFunc_int__i_AreRolls_c1
theorem h_slices_ContainsFunc_int__i_AreRolls_c1 : Cert Tryd.prog 46 S_slices_ContainsFunc_int__i_AreRolls_c1 := FnCx.certT (c := c_slices_ContainsFunc_int__i_AreRolls_c1) F_slices_ContainsFunc_int__i_AreRolls_c1 (tyOk _ _ _) (spOk ⟨h_slices_IndexFunc_int__i_AreRolls_c1, fun _ _ h => h, trivial⟩) (fun _ _ _ _ _ hs => noDr_ok) Tryd.func46 rfl rfl Tryd.ntmps46 (by kernel_rfl) rfl rfl (fun _ => rfl) trivial (fun x => .inl ⟨c_slices_ContainsFunc_int__i_AreRolls_c1.start () x, fun _ => rfl⟩) (fun x hb => by
  obtain ⟨s0, _, _⟩ := x
  exact slices_ContainsFunc_int__i_AreRolls_c1_e s0)
/-! impl.AreRolls -/
noncomputable def c_i_AreRolls : FnCx := { env := env 11 [(45, S_i_within), (46, S_slices_ContainsFunc_int__i_AreRolls_c1)] [], body := bodyOf Tryd.f26, res := [.tmp 2], ins := [.ro kSint], out := [(kbool, true)], T := Bool, fin := fun r => r.1.1, inj := fun t => ((t, ()), ((), ())), pts := [], fuel := 400, dr := noDr }
noncomputable def i_AreRolls (rolls0 : List Int) : Bool :=
  bif i_within (↑(List.length rolls0) : Int) 1 8 then !slices_ContainsFunc_int__i_AreRolls_c1 rolls0 else false
theorem i_AreRolls_e (rolls0 : List Int) : c_i_AreRolls.start c_i_AreRolls.L (rolls0, ()) = some (i_AreRolls rolls0) := by
  refine Eq.trans (b := (bif i_within (↑(List.length rolls0) : Int) 1 8 then some !slices_ContainsFunc_int__i_AreRolls_c1 rolls0 else some false : Option Bool)) (by kernel_rfl) ?_
  unfold i_AreRolls
  repeat (first | rfl | apply condS)
noncomputable def F_i_AreRolls : Ins c_i_AreRolls.ins → Bool := fun x => i_AreRolls x.1
noncomputable def S_i_AreRolls : FSpec := mkT c_i_AreRolls.env.pre c_i_AreRolls.ins c_i_AreRolls.out c_i_AreRolls.inj F_i_AreRolls
theorem h_i_AreRolls : Cert Tryd.prog 26 S_i_AreRolls := FnCx.certT (c := c_i_AreRolls) F_i_AreRolls (tyOk _ _ _) (spOk ⟨h_i_within, fun _ _ h => h, ⟨h_slices_ContainsFunc_int__i_AreRolls_c1, fun _ _ h => h, trivial⟩⟩) (fun _ _ _ _ _ hs => noDr_ok) Tryd.func26 rfl rfl Tryd.ntmps26 (by kernel_rfl) rfl rfl (fun _ => rfl) trivial (fun x => .inl ⟨c_i_AreRolls.start () x, fun _ => rfl⟩) (fun x hb => by
  obtain ⟨rolls0, _⟩ := x
  exact i_AreRolls_e rolls0)
/-! impl.ParseRolls -/
noncomputable def c_i_ParseRolls : FnCx := { env := env 19 [(37, S_i_nums), (26, S_i_AreRolls)] [], body := bodyOf Tryd.f17, res := [.tmp 2, .tmp 3], ins := [.ro kstring], out := [(kSint, true), (kbool, true)], T := List Int × Bool, fin := fun r => (r.1.1, r.1.2.1), inj := fun t => ((t.1, t.2, ()), ((), ())), pts := [], fuel := 400, dr := noDr }
noncomputable def i_ParseRolls (s0 : ByteArray) : Option (List Int × Bool) :=
  Option.bind (i_nums s0 { data := #[43] }) fun r =>
    bif !Prod.snd r then some ([], false) else bif !i_AreRolls (Prod.fst r) then some ([], false) else some (Prod.fst r, true)
theorem i_ParseRolls_e (s0 : ByteArray) : c_i_ParseRolls.start c_i_ParseRolls.L (s0, ()) = i_ParseRolls s0 := by kernel_rfl
noncomputable def F_i_ParseRolls : Ins c_i_ParseRolls.ins → Option (List Int × Bool) := fun x => i_ParseRolls x.1
noncomputable def S_i_ParseRolls : FSpec := mkF c_i_ParseRolls.env.pre c_i_ParseRolls.ins c_i_ParseRolls.out c_i_ParseRolls.inj F_i_ParseRolls
theorem h_i_ParseRolls : Cert Tryd.prog 17 S_i_ParseRolls := FnCx.certF (c := c_i_ParseRolls) F_i_ParseRolls (tyOk _ _ _) (spOk ⟨h_i_nums, fun _ _ h => h, ⟨h_i_AreRolls, fun _ _ h => h, trivial⟩⟩) (fun _ _ _ _ _ hs => noDr_ok) Tryd.func17 rfl rfl Tryd.ntmps17 (by kernel_rfl) rfl rfl (fun _ => rfl) trivial (fun x => .inl ⟨c_i_ParseRolls.start () x, fun _ => rfl⟩) (fun x t hb ht => by
  obtain ⟨s0, _⟩ := x
  exact (i_ParseRolls_e s0).trans ht)
/-! laws.eqIntS -/
noncomputable def c_w_eqIntS : FnCx := { env := env 26 [] [], body := bodyOf Tryd.f10, res := [.tmp 4], ins := [.ro kSint, .ro kSint], out := [(kbool, true)], T := Bool, fin := fun r => r.1.1, inj := fun t => ((t, ()), ((), (), ())), pts := [([.inLoop [1, 1, 0, 1, 0, 0], .inBlock 0, .code [1, 1, 1]], Shape.mk [Bs.row kint 3 false, Bs.row kint 3 false] [(0, Ss.one (Cs.sl 0)), (1, Ss.one (Cs.sl 1)), (5, Ss.one (Cs.sc kint))] [Ss.one (Cs.any), Ss.one (Cs.any)])], fuel := 400, dr := evDr (env 26 [] []) }
noncomputable def w_eqIntS_t1 (g1 : List (Int) → List (Int) → Int → Option (Bool)) (r0 : List (Int)) (r1 : List (Int)) (i5 : Int) : Option Bool :=
  bif decide (i5 < (↑(List.length r0) : Int)) then
    bif decide (0 ≤ i5) then
      bif decide (i5 < (↑(List.length r0) : Int)) then
        bif decide (0 ≤ i5) then
          bif decide (i5 < (↑(List.length r1) : Int)) then
            bif rdk kint r0 i5 != rdk kint r1 i5 then some false else g1 r0 r1 (IntKind.wrap IntKind.i64 (i5 + 1))
          else none
        else none
      else none
    else none
  else some true
noncomputable def w_eqIntS_t0 (g1 : List (Int) → List (Int) → Int → Option (Bool)) (a0 : List Int) (b1 : List Int) : Option Bool :=
  bif (↑(List.length a0) : Int) != (↑(List.length b1) : Int) then some false else g1 a0 b1 0
theorem w_eqIntS_ts : Tails c_w_eqIntS.pts c_w_eqIntS.round :=
  ⟨fun s => by
    obtain ⟨⟨r0, r1, _⟩, ⟨_, _, i5, _⟩, ⟨_, _, _⟩⟩ := s
    refine Tail.eq (Y := fun g => w_eqIntS_t1 (fun r0 r1 i5 => g.1 ((r0, r1, ()), ((), (), i5, ()), ((), (), ()))) r0 r1 i5) ?_ (fun g => by kernel_rfl)
    simp only [w_eqIntS_t1]; repeat (first | exact Tail.const _ | exact Tail.here _ | exact Tail.there (Tail.here _) | exact Tail.there (Tail.there (Tail.here _)) | exact Tail.there (Tail.there (Tail.there (Tail.here _))) | exact Tail.there (Tail.there (Tail.there (Tail.there (Tail.here _)))) | exact Tail.there (Tail.there (Tail.there (Tail.there (Tail.there (Tail.here _))))) | apply Tail.cond | (apply Tail.bind; intro _)), trivial⟩
theorem w_eqIntS_hs : ∀ x, Tail c_w_eqIntS.pts (fun g => c_w_eqIntS.start g x) := fun x => by
    obtain ⟨a0, b1, _⟩ := x
    refine Tail.eq (Y := fun g => w_eqIntS_t0 (fun r0 r1 i5 => g.1 ((r0, r1, ()), ((), (), i5, ()), ((), (), ()))) a0 b1) ?_ (fun g => by kernel_rfl)
    simp only [w_eqIntS_t0]; repeat (first | exact Tail.const _ | exact Tail.here _ | exact Tail.there (Tail.here _) | exact Tail.there (Tail.there (Tail.here _)) | exact Tail.there (Tail.there (Tail.there (Tail.here _))) | exact Tail.there (Tail.there (Tail.there (Tail.there (Tail.here _)))) | exact Tail.there (Tail.there (Tail.there (Tail.there (Tail.there (Tail.here _))))) | apply Tail.cond | (apply Tail.bind; intro _))
noncomputable def w_eqIntS_L1 (r0 : List (Int)) (r1 : List (Int)) (i5 : Int) : Option Bool := c_w_eqIntS.L.1 ((r0, r1, ()), ((), (), i5, ()), ((), (), ()))
theorem w_eqIntS_u1 (r0 : List (Int)) (r1 : List (Int)) (i5 : Int) : w_eqIntS_L1 r0 r1 i5 = w_eqIntS_t1 w_eqIntS_L1 r0 r1 i5 :=
  (congrArg (fun g => g.1 ((r0, r1, ()), ((), (), i5, ()), ((), (), ()))) (FnCx.L_eq w_eqIntS_ts)).trans (by kernel_rfl)
noncomputable def w_eqIntS (a0 : List Int) (b1 : List Int) : Option Bool := w_eqIntS_t0 w_eqIntS_L1 a0 b1
theorem w_eqIntS_e (a0 : List Int) (b1 : List Int) : c_w_eqIntS.start c_w_eqIntS.L (a0, b1, ()) = w_eqIntS a0 b1 := by kernel_rfl
-- NICE tot
noncomputable def w_eqIntS_n (a b : List Int) : Bool := decide (a = b)
theorem w_eqIntS_ok (a b : List Int) (hb : BdI c_w_eqIntS.ins (a, b, ())) : w_eqIntS a b = some (w_eqIntS_n a b) := by
  unfold w_eqIntS w_eqIntS_t0 w_eqIntS_n
  by_cases hl : a.length = b.length
  · have e := loop_eq (L := fun i => w_eqIntS_L1 a b (i : Int)) hl (fun i h h' => by
        simp only [w_eqIntS_u1 a b i, w_eqIntS_t1, rdk_get (k := kint) h, rdk_get (k := kint) h', wrapS h hb.1.1]
        have hne : (a[i] != b[i]) = !decide (a[i] = b[i]) := rfl
        by_cases hx : a[i] = b[i] <;> simp [h, h', hx, hne]) (by simp [w_eqIntS_u1 a b a.length, w_eqIntS_t1])
    simpa [hl] using e
  · have hab : a ≠ b := fun e => hl (by rw [e])
    have : ((a.length : Int) != (b.length : Int)) = true := by simp; omega
    rw [this]
    simp [hab]
noncomputable def F_w_eqIntS : Ins c_w_eqIntS.ins → Bool := fun x => w_eqIntS_n x.1 x.2.1
noncomputable def S_w_eqIntS : FSpec := mkT c_w_eqIntS.env.pre c_w_eqIntS.ins c_w_eqIntS.out c_w_eqIntS.inj F_w_eqIntS
theorem h_w_eqIntS : Cert Tryd.prog 10 S_w_eqIntS := FnCx.certT (c := c_w_eqIntS) F_w_eqIntS (tyOk _ _ _) (spOk trivial) (fun _ _ _ _ _ hs => evDr_ok (tyOk _ _ _) hs follows) Tryd.func10 rfl rfl Tryd.ntmps10 (by kernel_rfl) rfl rfl (fun _ => rfl) w_eqIntS_ts w_eqIntS_hs (fun x hb => by
  obtain ⟨a0, b1, _⟩ := x
  exact (w_eqIntS_e a0 b1).trans (w_eqIntS_ok a0 b1 hb))
/-! laws.markIntS -/
noncomputable def c_w_markIntS : FnCx := { env := env 19 [] [], body := bodyOf Tryd.f18, res := [.tmp 4], ins := [.wr kSint, .ro kint], out := [(kint, true)], T := Int × List Int, fin := fun r => (r.1.1, r.2.1), inj := fun t => ((t.1, ()), (t.2, (), ())), pts := [([.inLoop [1, 0, 1, 0, 0], .inBlock 0, .code [1, 1]], Shape.mk [Bs.row kint 3 true] [(0, Ss.one (Cs.sl 0)), (1, Ss.one (Cs.sc kint)), (5, Ss.one (Cs.sc kint))] [Ss.one (Cs.sl 0), Ss.one (Cs.any)])], fuel := 400, dr := noDr }
noncomputable def w_markIntS_t1 (g1 : List (Int) → Int → Int → Option (Int × List Int)) (r0 : List (Int)) (k1 : Int) (i5 : Int) : Option (Int × List Int) :=
  bif decide (i5 < (↑(List.length r0) : Int)) then
    bif decide (0 ≤ i5) then
      bif decide (i5 < (↑(List.length r0) : Int)) then g1 (List.set r0 (Int.toNat i5) k1) (IntKind.wrap IntKind.i64 (k1 + 1)) (IntKind.wrap IntKind.i64 (i5 + 1))
      else none
    else none
  else some (k1, r0)
noncomputable def w_markIntS_t0 (g1 : List (Int) → Int → Int → Option (Int × List Int)) (a0 : List Int) (k1 : Int) : Option (Int × List Int) :=
  g1 a0 k1 0
theorem w_markIntS_ts : Tails c_w_markIntS.pts c_w_markIntS.round :=
  ⟨fun s => by
    obtain ⟨⟨r0, _⟩, ⟨_, k1, i5, _⟩, ⟨_, _, _⟩⟩ := s
    refine Tail.eq (Y := fun g => w_markIntS_t1 (fun r0 k1 i5 => g.1 ((r0, ()), ((), k1, i5, ()), ((), (), ()))) r0 k1 i5) ?_ (fun g => by kernel_rfl)
    simp only [w_markIntS_t1]; repeat (first | exact Tail.const _ | exact Tail.here _ | exact Tail.there (Tail.here _) | exact Tail.there (Tail.there (Tail.here _)) | exact Tail.there (Tail.there (Tail.there (Tail.here _))) | exact Tail.there (Tail.there (Tail.there (Tail.there (Tail.here _)))) | exact Tail.there (Tail.there (Tail.there (Tail.there (Tail.there (Tail.here _))))) | apply Tail.cond | (apply Tail.bind; intro _)), trivial⟩
theorem w_markIntS_hs : ∀ x, Tail c_w_markIntS.pts (fun g => c_w_markIntS.start g x) := fun x => by
    obtain ⟨a0, k1, _⟩ := x
    refine Tail.eq (Y := fun g => w_markIntS_t0 (fun r0 k1 i5 => g.1 ((r0, ()), ((), k1, i5, ()), ((), (), ()))) a0 k1) ?_ (fun g => by kernel_rfl)
    simp only [w_markIntS_t0]; repeat (first | exact Tail.const _ | exact Tail.here _ | exact Tail.there (Tail.here _) | exact Tail.there (Tail.there (Tail.here _)) | exact Tail.there (Tail.there (Tail.there (Tail.here _))) | exact Tail.there (Tail.there (Tail.there (Tail.there (Tail.here _)))) | exact Tail.there (Tail.there (Tail.there (Tail.there (Tail.there (Tail.here _))))) | apply Tail.cond | (apply Tail.bind; intro _))
noncomputable def w_markIntS_L1 (r0 : List (Int)) (k1 : Int) (i5 : Int) : Option (Int × List Int) := c_w_markIntS.L.1 ((r0, ()), ((), k1, i5, ()), ((), (), ()))
theorem w_markIntS_u1 (r0 : List (Int)) (k1 : Int) (i5 : Int) : w_markIntS_L1 r0 k1 i5 = w_markIntS_t1 w_markIntS_L1 r0 k1 i5 :=
  (congrArg (fun g => g.1 ((r0, ()), ((), k1, i5, ()), ((), (), ()))) (FnCx.L_eq w_markIntS_ts)).trans (by kernel_rfl)
noncomputable def w_markIntS (a0 : List Int) (k1 : Int) : Option (Int × List Int) := w_markIntS_t0 w_markIntS_L1 a0 k1
theorem w_markIntS_e (a0 : List Int) (k1 : Int) : c_w_markIntS.start c_w_markIntS.L (a0, k1, ()) = w_markIntS a0 k1 := by kernel_rfl
-- NICE tot
noncomputable def w_markIntS_n (a : List Int) (k : Int) : Int × List Int := (markK a k, markL a k)
theorem w_markIntS_ok (a : List Int) (k : Int) (hb : BdI c_w_markIntS.ins (a, k, ())) : w_markIntS a k = some (w_markIntS_n a k) :=
  loop_mark (L := fun i r k => w_markIntS_L1 r k (i : Int)) (n := a.length)
    (fun i r k hr hi => by
      simp only [w_markIntS_u1 r k i, w_markIntS_t1, wrapS hi hb.1.1, Int.toNat_natCast]
      simp [hr, hi]) (fun r k hr => by simp [w_markIntS_u1 r k a.length, w_markIntS_t1, hr]) a k rfl
noncomputable def F_w_markIntS : Ins c_w_markIntS.ins → (Int × List Int) := fun x => w_markIntS_n x.1 x.2.1
noncomputable def S_w_markIntS : FSpec := mkT c_w_markIntS.env.pre c_w_markIntS.ins c_w_markIntS.out c_w_markIntS.inj F_w_markIntS
theorem h_w_markIntS : Cert Tryd.prog 18 S_w_markIntS := FnCx.certT (c := c_w_markIntS) F_w_markIntS (tyOk _ _ _) (spOk trivial) (fun _ _ _ _ _ hs => noDr_ok) Tryd.func18 rfl rfl Tryd.ntmps18 (by kernel_rfl) rfl rfl (fun _ => rfl) w_markIntS_ts w_markIntS_hs (fun x hb => by
  obtain ⟨a0, k1, _⟩ := x
  exact (w_markIntS_e a0 k1).trans (w_markIntS_ok a0 k1 hb))
/-! laws.heldIntS -/
noncomputable def c_w_heldIntS : FnCx := { env := env 21 [] [], body := bodyOf Tryd.f19, res := [.tmp 4], ins := [.ro kSint, .ro kint], out := [(kint, true)], T := Int, fin := fun r => r.1.1, inj := fun t => ((t, ()), ((), (), ())), pts := [([.inLoop [1, 0, 1, 0, 0], .inBlock 0, .code [1, 1]], Shape.mk [Bs.row kint 3 false] [(0, Ss.one (Cs.sl 0)), (1, Ss.one (Cs.sc kint)), (5, Ss.one (Cs.sc kint))] [Ss.one (Cs.any), Ss.one (Cs.any)])], fuel := 400, dr := noDr }
noncomputable def w_heldIntS_t1 (g1 : List (Int) → Int → Int → Option (Int)) (r0 : List (Int)) (k1 : Int) (i5 : Int) : Option Int :=
  bif decide (i5 < (↑(List.length r0) : Int)) then
    bif decide (0 ≤ i5) then
      bif decide (i5 < (↑(List.length r0) : Int)) then
        bif rdk kint r0 i5 != k1 then some (-1) else g1 r0 (IntKind.wrap IntKind.i64 (k1 + 1)) (IntKind.wrap IntKind.i64 (i5 + 1))
      else none
    else none
  else some k1
noncomputable def w_heldIntS_t0 (g1 : List (Int) → Int → Int → Option (Int)) (a0 : List Int) (k1 : Int) : Option Int :=
  g1 a0 k1 0
theorem w_heldIntS_ts : Tails c_w_heldIntS.pts c_w_heldIntS.round :=
  ⟨fun s => by
    obtain ⟨⟨r0, _⟩, ⟨_, k1, i5, _⟩, ⟨_, _, _⟩⟩ := s
    refine Tail.eq (Y := fun g => w_heldIntS_t1 (fun r0 k1 i5 => g.1 ((r0, ()), ((), k1, i5, ()), ((), (), ()))) r0 k1 i5) ?_ (fun g => by kernel_rfl)
    simp only [w_heldIntS_t1]; repeat (first | exact Tail.const _ | exact Tail.here _ | exact Tail.there (Tail.here _) | exact Tail.there (Tail.there (Tail.here _)) | exact Tail.there (Tail.there (Tail.there (Tail.here _))) | exact Tail.there (Tail.there (Tail.there (Tail.there (Tail.here _)))) | exact Tail.there (Tail.there (Tail.there (Tail.there (Tail.there (Tail.here _))))) | apply Tail.cond | (apply Tail.bind; intro _)), trivial⟩
theorem w_heldIntS_hs : ∀ x, Tail c_w_heldIntS.pts (fun g => c_w_heldIntS.start g x) := fun x => by
    obtain ⟨a0, k1, _⟩ := x
    refine Tail.eq (Y := fun g => w_heldIntS_t0 (fun r0 k1 i5 => g.1 ((r0, ()), ((), k1, i5, ()), ((), (), ()))) a0 k1) ?_ (fun g => by kernel_rfl)
    simp only [w_heldIntS_t0]; repeat (first | exact Tail.const _ | exact Tail.here _ | exact Tail.there (Tail.here _) | exact Tail.there (Tail.there (Tail.here _)) | exact Tail.there (Tail.there (Tail.there (Tail.here _))) | exact Tail.there (Tail.there (Tail.there (Tail.there (Tail.here _)))) | exact Tail.there (Tail.there (Tail.there (Tail.there (Tail.there (Tail.here _))))) | apply Tail.cond | (apply Tail.bind; intro _))
noncomputable def w_heldIntS_L1 (r0 : List (Int)) (k1 : Int) (i5 : Int) : Option Int := c_w_heldIntS.L.1 ((r0, ()), ((), k1, i5, ()), ((), (), ()))
theorem w_heldIntS_u1 (r0 : List (Int)) (k1 : Int) (i5 : Int) : w_heldIntS_L1 r0 k1 i5 = w_heldIntS_t1 w_heldIntS_L1 r0 k1 i5 :=
  (congrArg (fun g => g.1 ((r0, ()), ((), k1, i5, ()), ((), (), ()))) (FnCx.L_eq w_heldIntS_ts)).trans (by kernel_rfl)
noncomputable def w_heldIntS (a0 : List Int) (k1 : Int) : Option Int := w_heldIntS_t0 w_heldIntS_L1 a0 k1
theorem w_heldIntS_e (a0 : List Int) (k1 : Int) : c_w_heldIntS.start c_w_heldIntS.L (a0, k1, ()) = w_heldIntS a0 k1 := by kernel_rfl
-- NICE tot
noncomputable def w_heldIntS_n (a : List Int) (k : Int) : Int := heldL a k
theorem w_heldIntS_ok (a : List Int) (k : Int) (hb : BdI c_w_heldIntS.ins (a, k, ())) : w_heldIntS a k = some (w_heldIntS_n a k) :=
  loop_held (L := fun i k => w_heldIntS_L1 a k (i : Int)) (l := a)
    (fun i h k => by
      simp only [w_heldIntS_u1 a k i, w_heldIntS_t1, rdk_get (k := kint) h, wrapS h hb.1.1]
      simp [h]) (fun k => by simp [w_heldIntS_u1 a k a.length, w_heldIntS_t1]) k
noncomputable def F_w_heldIntS : Ins c_w_heldIntS.ins → Int := fun x => w_heldIntS_n x.1 x.2.1
noncomputable def S_w_heldIntS : FSpec := mkT c_w_heldIntS.env.pre c_w_heldIntS.ins c_w_heldIntS.out c_w_heldIntS.inj F_w_heldIntS
theorem h_w_heldIntS : Cert Tryd.prog 19 S_w_heldIntS := FnCx.certT (c := c_w_heldIntS) F_w_heldIntS (tyOk _ _ _) (spOk trivial) (fun _ _ _ _ _ hs => noDr_ok) Tryd.func19 rfl rfl Tryd.ntmps19 (by kernel_rfl) rfl rfl (fun _ => rfl) w_heldIntS_ts w_heldIntS_hs (fun x hb => by
  obtain ⟨a0, k1, _⟩ := x
  exact (w_heldIntS_e a0 k1).trans (w_heldIntS_ok a0 k1 hb))
/-! laws.FnExactParseRolls -/
noncomputable def c_w_FnExactParseRolls : FnCx := { env := env 66 [(16, S_s_ParseRolls), (17, S_i_ParseRolls), (10, S_w_eqIntS), (18, S_w_markIntS), (19, S_w_heldIntS)] [], body := bodyOf Tryd.f5, res := [.tmp 2], ins := [.ro kstring], out := [(kbool, true)], T := Bool, fin := fun r => r.1.1, inj := fun t => ((t, ()), ((), ())), pts := [], fuel := 400, dr := noDr }
noncomputable def w_FnExactParseRolls (aS0 : ByteArray) : Option Bool :=
  bif decide ((↑(ByteArray.size aS0) : Int) > 1048576) then some true
  else
    Option.bind (s_ParseRolls aS0) fun r =>
      Option.bind (i_ParseRolls aS0) fun r_1 =>
        bif !w_eqIntS_n (Prod.fst r_1) (Prod.fst r) then some false
        else
          bif !Prod.snd r_1 == Prod.snd r then some false
          else
            bif decide (w_heldIntS_n (markL (Prod.fst r_1) 1) 1 < 0) then some false
            else
              bif w_heldIntS_n (markL (Prod.fst r_1) 1) 1 != markK (Prod.fst r_1) 1 then some false
              else
                Option.bind (i_ParseRolls aS0) fun r_2 =>
                  bif !w_eqIntS_n (Prod.fst r_2) (Prod.fst r) then some false
                  else
                    bif !Prod.snd r_2 == Prod.snd r then some false
                    else
                      bif decide (w_heldIntS_n (markL (Prod.fst r_1) 1) 1 < 0) then some false
                      else bif w_heldIntS_n (markL (Prod.fst r_1) 1) 1 != markK (Prod.fst r_1) 1 then some false else some true
theorem w_FnExactParseRolls_e (aS0 : ByteArray) : c_w_FnExactParseRolls.start c_w_FnExactParseRolls.L (aS0, ()) = w_FnExactParseRolls aS0 := by kernel_rfl
noncomputable def F_w_FnExactParseRolls : Ins c_w_FnExactParseRolls.ins → Option Bool := fun x => w_FnExactParseRolls x.1
noncomputable def S_w_FnExactParseRolls : FSpec := mkF c_w_FnExactParseRolls.env.pre c_w_FnExactParseRolls.ins c_w_FnExactParseRolls.out c_w_FnExactParseRolls.inj F_w_FnExactParseRolls
theorem h_w_FnExactParseRolls : Cert Tryd.prog 5 S_w_FnExactParseRolls := FnCx.certF (c := c_w_FnExactParseRolls) F_w_FnExactParseRolls (tyOk _ _ _) (spOk ⟨h_s_ParseRolls, fun _ _ h => h, ⟨h_i_ParseRolls, fun _ _ h => h, ⟨h_w_eqIntS, fun _ _ h => h, ⟨h_w_markIntS, fun _ _ h => h, ⟨h_w_heldIntS, fun _ _ h => h, trivial⟩⟩⟩⟩⟩) (fun _ _ _ _ _ hs => noDr_ok) Tryd.func5 rfl rfl Tryd.ntmps5 (by kernel_rfl) rfl rfl (fun _ => rfl) trivial (fun x => .inl ⟨c_w_FnExactParseRolls.start () x, fun _ => rfl⟩) (fun x t hb ht => by
  obtain ⟨aS0, _⟩ := x
  exact (w_FnExactParseRolls_e aS0).trans ht)
end Go.Proofs.YtlffgllmjjkfdaaDoor.V
