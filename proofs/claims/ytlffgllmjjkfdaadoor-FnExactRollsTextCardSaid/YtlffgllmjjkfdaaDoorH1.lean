/- Functions of the program, as plain functions. No condition. -/
import Derived.Test.YtlffgllmjjkfdaaDoorTyH
set_option linter.unusedVariables false
set_option linter.unusedSimpArgs false
set_option maxRecDepth 100000
namespace Go.Proofs.YtlffgllmjjkfdaaDoor.V
open Go Go.Ev Go.Proofs
/-! laws.toIntS -/
noncomputable def c_w_toIntS : FnCx := { env := env 22 [] [], body := bodyOf Tryd.f8, res := [.tmp 2], ins := [.ro kSint], out := [(kSint, true)], T := List Int, fin := fun r => r.1.1, inj := fun t => ((t, ()), ((), ())), pts := [([.inLoop [1, 1, 0, 1, 0, 0], .inBlock 0, .code [1, 1, 1]], Shape.mk [Bs.row kint 3 false, Bs.row kint 3 true] [(0, Ss.one (Cs.sl 0)), (3, Ss.one (Cs.sl 1)), (4, Ss.one (Cs.sc kint))] [Ss.one (Cs.any)])], fuel := 400, dr := noDr }
noncomputable def w_toIntS_t1 (g1 : List (Int) → List (Int) → Int → Option (List Int)) (r0 : List (Int)) (r1 : List (Int)) (i4 : Int) : Option (List Int) :=
  bif decide (i4 < (↑(List.length r0) : Int)) then
    bif decide (0 ≤ i4) then
      bif decide (i4 < (↑(List.length r0) : Int)) then
        bif decide (0 ≤ i4) then
          bif decide (i4 < (↑(List.length r1) : Int)) then g1 r0 (List.set r1 (Int.toNat i4) (rdk kint r0 i4)) (IntKind.wrap IntKind.i64 (i4 + 1))
          else none
        else none
      else none
    else none
  else some r1
noncomputable def w_toIntS_t0 (g1 : List (Int) → List (Int) → Int → Option (List Int)) (a0 : List Int) : Option (List Int) :=
  bif (↑(List.length a0) : Int) == (↑(List.length a0) : Int) then
    bif decide ((↑(List.length a0) : Int) ≤ (↑4294967296 : Int)) then g1 a0 (List.replicate (Int.toNat (↑(List.length a0) : Int)) (Kd.zero kint)) 0 else none
  else none
theorem w_toIntS_ts : Tails c_w_toIntS.pts c_w_toIntS.round :=
  ⟨fun s => by
    obtain ⟨⟨r0, r1, _⟩, ⟨_, _, i4, _⟩, ⟨_, _⟩⟩ := s
    refine Tail.eq (Y := fun g => w_toIntS_t1 (fun r0 r1 i4 => g.1 ((r0, r1, ()), ((), (), i4, ()), ((), ()))) r0 r1 i4) ?_ (fun g => by kernel_rfl)
    simp only [w_toIntS_t1]; repeat (first | exact Tail.const _ | exact Tail.here _ | exact Tail.there (Tail.here _) | exact Tail.there (Tail.there (Tail.here _)) | exact Tail.there (Tail.there (Tail.there (Tail.here _))) | exact Tail.there (Tail.there (Tail.there (Tail.there (Tail.here _)))) | exact Tail.there (Tail.there (Tail.there (Tail.there (Tail.there (Tail.here _))))) | apply Tail.cond | (apply Tail.bind; intro _)), trivial⟩
theorem w_toIntS_hs : ∀ x, Tail c_w_toIntS.pts (fun g => c_w_toIntS.start g x) := fun x => by
    obtain ⟨a0, _⟩ := x
    refine Tail.eq (Y := fun g => w_toIntS_t0 (fun r0 r1 i4 => g.1 ((r0, r1, ()), ((), (), i4, ()), ((), ()))) a0) ?_ (fun g => by kernel_rfl)
    simp only [w_toIntS_t0]; repeat (first | exact Tail.const _ | exact Tail.here _ | exact Tail.there (Tail.here _) | exact Tail.there (Tail.there (Tail.here _)) | exact Tail.there (Tail.there (Tail.there (Tail.here _))) | exact Tail.there (Tail.there (Tail.there (Tail.there (Tail.here _)))) | exact Tail.there (Tail.there (Tail.there (Tail.there (Tail.there (Tail.here _))))) | apply Tail.cond | (apply Tail.bind; intro _))
noncomputable def w_toIntS_L1 (r0 : List (Int)) (r1 : List (Int)) (i4 : Int) : Option (List Int) := c_w_toIntS.L.1 ((r0, r1, ()), ((), (), i4, ()), ((), ()))
theorem w_toIntS_u1 (r0 : List (Int)) (r1 : List (Int)) (i4 : Int) : w_toIntS_L1 r0 r1 i4 = w_toIntS_t1 w_toIntS_L1 r0 r1 i4 :=
  (congrArg (fun g => g.1 ((r0, r1, ()), ((), (), i4, ()), ((), ()))) (FnCx.L_eq w_toIntS_ts)).trans (by kernel_rfl)
noncomputable def w_toIntS (a0 : List Int) : Option (List Int) := w_toIntS_t0 w_toIntS_L1 a0
theorem w_toIntS_e (a0 : List Int) : c_w_toIntS.start c_w_toIntS.L (a0, ()) = w_toIntS a0 := by kernel_rfl
-- NICE opt
noncomputable def w_toIntS_n (a0 : List Int) : Option (List Int) := bif decide (a0.length ≤ 4294967296) then some a0 else none
theorem w_toIntS_ok (a0 : List Int) (hb : BdI c_w_toIntS.ins (a0, ())) (t : List Int) (ht : w_toIntS_n a0 = some t) : w_toIntS a0 = some t := by
  unfold w_toIntS_n at ht
  cases h : decide (a0.length ≤ 4294967296)
  · rw [h] at ht; cases ht
  · rw [h] at ht; cases ht
    have h := of_decide_eq_true h
    have e := loop_set (L := fun i r => w_toIntS_L1 a0 r (i : Int)) (l := a0) (f := id) (e := id)
      (fun i h r hr => by
        simp only [w_toIntS_u1 a0 r i, w_toIntS_t1, rdk_get (k := kint) h, wrapS h hb.1.1, Int.toNat_natCast]
        simp [h, hr])
      (fun r => by simp [w_toIntS_u1 a0 r a0.length, w_toIntS_t1]) (List.replicate a0.length (Kd.zero kint)) (by simp)
    have h' : ((a0.length : Int) ≤ 4294967296) := by omega
    simp [w_toIntS, w_toIntS_t0, h']
    simpa using e
noncomputable def F_w_toIntS : Ins c_w_toIntS.ins → Option (List Int) := fun x => w_toIntS_n x.1
noncomputable def S_w_toIntS : FSpec := mkF c_w_toIntS.env.pre c_w_toIntS.ins c_w_toIntS.out c_w_toIntS.inj F_w_toIntS
theorem h_w_toIntS : Cert Tryd.prog 8 S_w_toIntS := FnCx.certF (c := c_w_toIntS) F_w_toIntS (tyOk _ _ _) (spOk trivial) (fun _ _ _ _ _ hs => noDr_ok) Tryd.func8 rfl rfl Tryd.ntmps8 (by kernel_rfl) rfl rfl (fun _ => rfl) w_toIntS_ts w_toIntS_hs (fun x t hb ht => by
  obtain ⟨a0, _⟩ := x
  exact (w_toIntS_e a0).trans (w_toIntS_ok a0 hb t ht))
/-! spec.l1In -/
noncomputable def c_s_l1In : FnCx := { env := env 15 [] [], body := bodyOf Tryd.f42, res := [.tmp 6], ins := [.ro kint, .ro kint, .ro kint], out := [(kbool, true)], T := Bool, fin := fun r => r.1.1, inj := fun t => ((t, ()), ((), (), (), ())), pts := [], fuel := 400, dr := noDr }
noncomputable def s_l1In (n0 : Int) (lo1 : Int) (hi2 : Int) : Bool :=
  bif decide (n0 ≥ lo1) then decide (n0 ≤ hi2) else false
theorem s_l1In_e (n0 : Int) (lo1 : Int) (hi2 : Int) : c_s_l1In.start c_s_l1In.L (n0, lo1, hi2, ()) = some (s_l1In n0 lo1 hi2) := by
  refine Eq.trans (b := (bif decide (n0 ≥ lo1) then some (decide (n0 ≤ hi2)) else some false : Option Bool)) (by kernel_rfl) ?_
  unfold s_l1In
  repeat (first | rfl | apply condS)
noncomputable def F_s_l1In : Ins c_s_l1In.ins → Bool := fun x => s_l1In x.1 x.2.1 x.2.2.1
noncomputable def S_s_l1In : FSpec := mkT c_s_l1In.env.pre c_s_l1In.ins c_s_l1In.out c_s_l1In.inj F_s_l1In
theorem h_s_l1In : Cert Tryd.prog 42 S_s_l1In := FnCx.certT (c := c_s_l1In) F_s_l1In (tyOk _ _ _) (spOk trivial) (fun _ _ _ _ _ hs => noDr_ok) Tryd.func42 rfl rfl Tryd.ntmps42 (by kernel_rfl) rfl rfl (fun _ => rfl) trivial (fun x => .inl ⟨c_s_l1In.start () x, fun _ => rfl⟩) (fun x hb => by
  obtain ⟨n0, lo1, hi2, _⟩ := x
  exact s_l1In_e n0 lo1 hi2)
/-! spec.l1All -/
noncomputable def c_s_l1All : FnCx := { env := env 21 [(42, S_s_l1In)] [], body := bodyOf Tryd.f43, res := [.tmp 6], ins := [.ro kSint, .ro kint, .ro kint], out := [(kbool, true)], T := Bool, fin := fun r => r.1.1, inj := fun t => ((t, ()), ((), (), (), ())), pts := [([.inLoop [1, 0, 1, 0, 0], .inBlock 0, .code [1, 1]], Shape.mk [Bs.row kint 3 false] [(1, Ss.one (Cs.sc kint)), (2, Ss.one (Cs.sc kint)), (9, Ss.one (Cs.sl 0)), (10, Ss.one (Cs.sc kint)), (11, Ss.one (Cs.sc kint))] [Ss.one (Cs.any), Ss.one (Cs.any), Ss.one (Cs.any)])], fuel := 400, dr := noDr }
noncomputable def s_l1All_t1 (g1 : List (Int) → Int → Int → Int → Int → Option (Bool)) (r0 : List (Int)) (lo1 : Int) (hi2 : Int) (s10 : Int) (s11 : Int) : Option Bool :=
  bif decide (s11 < s10) then
    bif decide (0 ≤ s11) then
      bif decide (s11 < (↑(List.length r0) : Int)) then
        bif !s_l1In (rdk kint r0 s11) lo1 hi2 then some false else g1 r0 lo1 hi2 s10 (IntKind.wrap IntKind.i64 (s11 + 1))
      else none
    else none
  else some true
noncomputable def s_l1All_t0 (g1 : List (Int) → Int → Int → Int → Int → Option (Bool)) (l0 : List Int) (lo1 : Int) (hi2 : Int) : Option Bool :=
  g1 l0 lo1 hi2 (↑(List.length l0) : Int) 0
theorem s_l1All_ts : Tails c_s_l1All.pts c_s_l1All.round :=
  ⟨fun s => by
    obtain ⟨⟨r0, _⟩, ⟨lo1, hi2, _, s10, s11, _⟩, ⟨_, _, _, _⟩⟩ := s
    refine Tail.eq (Y := fun g => s_l1All_t1 (fun r0 lo1 hi2 s10 s11 => g.1 ((r0, ()), (lo1, hi2, (), s10, s11, ()), ((), (), (), ()))) r0 lo1 hi2 s10 s11) ?_ (fun g => by kernel_rfl)
    simp only [s_l1All_t1]; repeat (first | exact Tail.const _ | exact Tail.here _ | exact Tail.there (Tail.here _) | exact Tail.there (Tail.there (Tail.here _)) | exact Tail.there (Tail.there (Tail.there (Tail.here _))) | exact Tail.there (Tail.there (Tail.there (Tail.there (Tail.here _)))) | exact Tail.there (Tail.there (Tail.there (Tail.there (Tail.there (Tail.here _))))) | apply Tail.cond | (apply Tail.bind; intro _)), trivial⟩
theorem s_l1All_hs : ∀ x, Tail c_s_l1All.pts (fun g => c_s_l1All.start g x) := fun x => by
    obtain ⟨l0, lo1, hi2, _⟩ := x
    refine Tail.eq (Y := fun g => s_l1All_t0 (fun r0 lo1 hi2 s10 s11 => g.1 ((r0, ()), (lo1, hi2, (), s10, s11, ()), ((), (), (), ()))) l0 lo1 hi2) ?_ (fun g => by kernel_rfl)
    simp only [s_l1All_t0]; repeat (first | exact Tail.const _ | exact Tail.here _ | exact Tail.there (Tail.here _) | exact Tail.there (Tail.there (Tail.here _)) | exact Tail.there (Tail.there (Tail.there (Tail.here _))) | exact Tail.there (Tail.there (Tail.there (Tail.there (Tail.here _)))) | exact Tail.there (Tail.there (Tail.there (Tail.there (Tail.there (Tail.here _))))) | apply Tail.cond | (apply Tail.bind; intro _))
noncomputable def s_l1All_L1 (r0 : List (Int)) (lo1 : Int) (hi2 : Int) (s10 : Int) (s11 : Int) : Option Bool := c_s_l1All.L.1 ((r0, ()), (lo1, hi2, (), s10, s11, ()), ((), (), (), ()))
theorem s_l1All_u1 (r0 : List (Int)) (lo1 : Int) (hi2 : Int) (s10 : Int) (s11 : Int) : s_l1All_L1 r0 lo1 hi2 s10 s11 = s_l1All_t1 s_l1All_L1 r0 lo1 hi2 s10 s11 :=
  (congrArg (fun g => g.1 ((r0, ()), (lo1, hi2, (), s10, s11, ()), ((), (), (), ()))) (FnCx.L_eq s_l1All_ts)).trans (by kernel_rfl)
noncomputable def s_l1All (l0 : List Int) (lo1 : Int) (hi2 : Int) : Option Bool := s_l1All_t0 s_l1All_L1 l0 lo1 hi2
theorem s_l1All_e (l0 : List Int) (lo1 : Int) (hi2 : Int) : c_s_l1All.start c_s_l1All.L (l0, lo1, hi2, ()) = s_l1All l0 lo1 hi2 := by kernel_rfl
-- NICE tot
noncomputable def s_l1All_n (l : List Int) (lo hi : Int) : Bool := l.all (inB lo hi)
theorem s_l1In_inB2 (x lo hi : Int) : s_l1In x lo hi = inB lo hi x := by
  unfold s_l1In inB
  cases h1 : decide (lo ≤ x) <;> simp_all
theorem s_l1All_ok (l : List Int) (lo hi : Int) (hb : BdI c_s_l1All.ins (l, lo, hi, ())) : s_l1All l lo hi = some (s_l1All_n l lo hi) := by
  have hm : l.length ≤ maxLen := hb.1.1
  have e := loop_any (L := fun i => s_l1All_L1 l lo hi l.length (i : Int)) (l := l) (p := fun x => !inB lo hi x) (a := false) (b := true)
    (fun i h => by simp only [s_l1All_u1 l lo hi l.length i, s_l1All_t1, rdk_get (k := kint) h, wrapS h hm, s_l1In_inB2]; simp [h]) (by simp [s_l1All_u1 l lo hi l.length l.length, s_l1All_t1])
  refine Eq.trans e (congrArg some ?_)
  unfold s_l1All_n
  rw [any_not]
noncomputable def F_s_l1All : Ins c_s_l1All.ins → Bool := fun x => s_l1All_n x.1 x.2.1 x.2.2.1
noncomputable def S_s_l1All : FSpec := mkT c_s_l1All.env.pre c_s_l1All.ins c_s_l1All.out c_s_l1All.inj F_s_l1All
theorem h_s_l1All : Cert Tryd.prog 43 S_s_l1All := FnCx.certT (c := c_s_l1All) F_s_l1All (tyOk _ _ _) (spOk ⟨h_s_l1In, fun _ _ h => h, trivial⟩) (fun _ _ _ _ _ hs => noDr_ok) Tryd.func43 rfl rfl Tryd.ntmps43 (by kernel_rfl) rfl rfl (fun _ => rfl) s_l1All_ts s_l1All_hs (fun x hb => by
  obtain ⟨l0, lo1, hi2, _⟩ := x
  exact (s_l1All_e l0 lo1 hi2).trans (s_l1All_ok l0 lo1 hi2 hb))
/-! spec.cpRolls -/
noncomputable def c_s_cpRolls : FnCx := { env := env 10 [(42, S_s_l1In), (43, S_s_l1All)] [], body := bodyOf Tryd.f24, res := [.tmp 2], ins := [.ro kSint], out := [(kbool, true)], T := Bool, fin := fun r => r.1.1, inj := fun t => ((t, ()), ((), ())), pts := [], fuel := 400, dr := noDr }
noncomputable def s_cpRolls (rolls0 : List Int) : Bool :=
  bif s_l1In (↑(List.length rolls0) : Int) 1 8 then s_l1All_n rolls0 1 2000 else false
theorem s_cpRolls_e (rolls0 : List Int) : c_s_cpRolls.start c_s_cpRolls.L (rolls0, ()) = some (s_cpRolls rolls0) := by
  refine Eq.trans (b := (bif s_l1In (↑(List.length rolls0) : Int) 1 8 then some (s_l1All_n rolls0 1 2000) else some false : Option Bool)) (by kernel_rfl) ?_
  unfold s_cpRolls
  repeat (first | rfl | apply condS)
noncomputable def F_s_cpRolls : Ins c_s_cpRolls.ins → Bool := fun x => s_cpRolls x.1
noncomputable def S_s_cpRolls : FSpec := mkT c_s_cpRolls.env.pre c_s_cpRolls.ins c_s_cpRolls.out c_s_cpRolls.inj F_s_cpRolls
theorem h_s_cpRolls : Cert Tryd.prog 24 S_s_cpRolls := FnCx.certT (c := c_s_cpRolls) F_s_cpRolls (tyOk _ _ _) (spOk ⟨h_s_l1In, fun _ _ h => h, ⟨h_s_l1All, fun _ _ h => h, trivial⟩⟩) (fun _ _ _ _ _ hs => noDr_ok) Tryd.func24 rfl rfl Tryd.ntmps24 (by kernel_rfl) rfl rfl (fun _ => rfl) trivial (fun x => .inl ⟨c_s_cpRolls.start () x, fun _ => rfl⟩) (fun x hb => by
  obtain ⟨rolls0, _⟩ := x
  exact s_cpRolls_e rolls0)
/-! spec.l1Num -/
noncomputable def SR_s_l1Num (RR : Int → Option (ByteArray)) : FSpec := mkF (T := ByteArray) textPre [.ro kint] [(kstring, true)] (fun t => ((t, ()), ((), ()))) (fun x => RR x.1)
noncomputable def c_s_l1Num (RR : Int → Option (ByteArray)) : FnCx := { env := env 20 [(44, SR_s_l1Num RR)] [], body := bodyOf Tryd.f44, res := [.tmp 2], ins := [.ro kint], out := [(kstring, true)], T := ByteArray, fin := fun r => r.1.1, inj := fun t => ((t, ()), ((), ())), pts := [], fuel := 400, dr := evDr (env 20 [(44, SR_s_l1Num RR)] []) }
noncomputable def s_l1Num (RR : Int → Option (ByteArray)) (n0 : Int) : Option ByteArray :=
  bif decide (n0 < 10) then
    some (List.foldl (fun r n => ByteArray.push r (UInt8.ofNat (Int.toNat n))) ByteArray.empty [IntKind.wrap IntKind.u8 (IntKind.wrap IntKind.i64 (48 + n0))])
  else
    Option.bind (RR (IntKind.wrap IntKind.i64 (Int.tdiv n0 10))) fun r =>
      bif
          Nat.ble
            (ByteArray.size r +
              ByteArray.size
                (List.foldl (fun r n => ByteArray.push r (UInt8.ofNat (Int.toNat n))) ByteArray.empty
                  [IntKind.wrap IntKind.u8 (IntKind.wrap IntKind.i64 (48 + Int.tmod n0 10))]))
            9223372036854775807 then
        some
          (r ++
            List.foldl (fun r n => ByteArray.push r (UInt8.ofNat (Int.toNat n))) ByteArray.empty
              [IntKind.wrap IntKind.u8 (IntKind.wrap IntKind.i64 (48 + Int.tmod n0 10))])
      else none
theorem s_l1Num_e (RR : Int → Option (ByteArray)) (n0 : Int) : (c_s_l1Num RR).start (c_s_l1Num RR).L (n0, ()) = (s_l1Num RR) n0 := by kernel_rfl
noncomputable def s_l1Num_it : Nat → Int → Option (ByteArray) := fun n => Nat.rec (fun _ => none) (fun _ RR => s_l1Num RR) n
theorem s_l1Num_is (n : Nat) (n0 : Int) : s_l1Num_it (n + 1) n0 = s_l1Num (s_l1Num_it n) n0 := rfl
theorem hh_s_l1Num : ∀ n, Cert Tryd.prog 44 (SR_s_l1Num (s_l1Num_it n))
  | 0 => cert_none Tryd.func44 rfl (by kernel_rfl) rfl rfl
  | n + 1 => FnCx.certF (c := c_s_l1Num (s_l1Num_it n)) (fun x => s_l1Num_it (n + 1) x.1) (tyOk _ _ _) (spOk ⟨hh_s_l1Num n, fun _ _ h => h, trivial⟩) (fun _ _ _ _ _ hs => evDr_ok (tyOk _ _ _) hs follows) Tryd.func44 rfl rfl Tryd.ntmps44 (by kernel_rfl) rfl rfl (fun _ => rfl) trivial (fun x => .inl ⟨(c_s_l1Num (s_l1Num_it n)).start () x, fun _ => rfl⟩) (fun x t hb ht => by
    obtain ⟨n0, _⟩ := x
    exact (s_l1Num_e (s_l1Num_it n) n0).trans ht)
-- NICE rec
theorem wrapU8 {n : Int} (h1 : 0 ≤ n) (h2 : n ≤ 255) : IntKind.wrap .u8 n = n := by
  unfold IntKind.wrap
  simp [IntKind.signed, IntKind.bits]
  omega
theorem bytes_app (a b : List UInt8) : (⟨a.toArray⟩ : ByteArray) ++ ⟨b.toArray⟩ = ⟨(a ++ b).toArray⟩ := ByteArray.ext (by rw [ByteArray.data_append]; simp)
theorem dec_len : ∀ u : Nat, (Lib.decDigits u).length ≤ u + 1 := by
  intro u
  induction u using Nat.strongRecOn with
  | ind u ih =>
    rw [Lib.decDigits]
    by_cases h : u < 10
    · rw [dif_pos h]; simp
    · rw [dif_neg h]
      have := ih (u / 10) (by omega)
      rw [List.length_append, List.length_singleton]; omega
theorem itoa_nat (n : Nat) : Lib.itoa (n : Int) = Lib.decDigits n := by
  unfold Lib.itoa
  rw [if_neg (by omega), Int.toNat_natCast]
theorem digit_eq {m : Nat} (h : m < 10) : List.foldl (fun r n => ByteArray.push r (UInt8.ofNat (Int.toNat n))) ByteArray.empty [IntKind.wrap .u8 (IntKind.wrap .i64 (48 + (m : Int)))] = ⟨([UInt8.ofNat (48 + m)] : List UInt8).toArray⟩ := by
  rw [wrapI (n := 48 + (m : Int)) (by omega) (by omega), wrapU8 (by omega) (by omega), show (48 + (m : Int)) = ((48 + m : Nat) : Int) by omega]
  simp only [List.foldl_cons, List.foldl_nil, Int.toNat_natCast]
  rfl
theorem num_it : ∀ (k n : Nat), n < k → n ≤ 4000000000000000000 → s_l1Num_it k (n : Int) = some ⟨(Lib.decDigits n).toArray⟩
  | 0, n, h, _ => by omega
  | k + 1, n, h, hn => by
    rw [s_l1Num_is, s_l1Num]
    by_cases h10 : n < 10
    · rw [decide_eq_true (show (n : Int) < 10 by omega), cond_true, digit_eq h10, Lib.decDigits, dif_pos h10]
    · have hm : Int.tmod (n : Int) 10 = ((n % 10 : Nat) : Int) := by rw [Int.tmod_eq_emod_of_nonneg (by omega)]; rfl
      have hd : Int.tdiv (n : Int) 10 = ((n / 10 : Nat) : Int) := by rw [Int.tdiv_eq_ediv_of_nonneg (by omega)]; rfl
      have ih := num_it k (n / 10) (by omega) (by omega)
      have hl := dec_len (n / 10)
      rw [decide_eq_false (show ¬ (n : Int) < 10 by omega), cond_false, hd, hm, wrapI (n := ((n / 10 : Nat) : Int)) (by omega) (by omega), ih, Option.bind_some, digit_eq (Nat.mod_lt n (by omega)), ble_dec, decide_eq_true, cond_true, bytes_app, Lib.decDigits.eq_def n, dif_neg h10]
      show (Lib.decDigits (n / 10)).toArray.size + 1 ≤ _
      simp; omega
noncomputable def s_l1Num_n (n : Int) : Option ByteArray := bif decide (0 ≤ n) && decide (n ≤ 4000000000000000000) then some ⟨(Lib.itoa n).toArray⟩ else none
theorem s_l1Num_ok (n : Int) (t : ByteArray) (h : s_l1Num_n n = some t) : ∃ k, s_l1Num_it k n = some t := by
  unfold s_l1Num_n at h
  cases hc : decide (0 ≤ n) && decide (n ≤ 4000000000000000000)
  · rw [hc] at h; cases h
  · rw [hc, cond_true] at h
    cases h
    rw [Bool.and_eq_true, decide_eq_true_eq, decide_eq_true_eq] at hc
    obtain ⟨m, rfl⟩ := Int.eq_ofNat_of_zero_le hc.1
    exact ⟨m + 1, by rw [num_it (m + 1) m (by omega) (by omega), itoa_nat]⟩
noncomputable def F_s_l1Num : Ins [.ro kint] → Option ByteArray := fun x => s_l1Num_n x.1
noncomputable def S_s_l1Num : FSpec := mkF (T := ByteArray) textPre [.ro kint] [(kstring, true)] (fun t => ((t, ()), ((), ()))) F_s_l1Num
theorem h_s_l1Num : Cert Tryd.prog 44 S_s_l1Num := cert_lim hh_s_l1Num (fun x t hb ht => by
  obtain ⟨n0, _⟩ := x
  exact s_l1Num_ok n0 t ht)
/-! spec.cpText -/
noncomputable def c_s_cpText : FnCx := { env := env 23 [(44, S_s_l1Num)] [], body := bodyOf Tryd.f25, res := [.tmp 2], ins := [.ro kSint], out := [(kstring, true)], T := ByteArray, fin := fun r => r.1.1, inj := fun t => ((t, ()), ((), ())), pts := [([.inLoop [1, 1, 0, 1, 0, 0], .inBlock 0, .code [1, 1, 1]], Shape.mk [Bs.row kint 3 false] [(3, Ss.one (Cs.sc kstring)), (6, Ss.one (Cs.sl 0)), (7, Ss.one (Cs.sc kint)), (8, Ss.one (Cs.sc kint))] [Ss.one (Cs.any)])], fuel := 400, dr := noDr }
noncomputable def s_cpText_t1 (g1 : List (Int) → ByteArray → Int → Int → Option (ByteArray)) (r0 : List (Int)) (out3 : ByteArray) (s7 : Int) (s8 : Int) : Option ByteArray :=
  bif decide (s8 < s7) then
    bif decide (0 ≤ s8) then
      bif decide (s8 < (↑(List.length r0) : Int)) then
        bif decide (s8 > 0) then
          bif Nat.ble (ByteArray.size out3 + ByteArray.size { data := #[43] }) 9223372036854775807 then
            Option.bind (s_l1Num_n (rdk kint r0 s8)) fun r =>
              bif Nat.ble (ByteArray.size (out3 ++ { data := #[43] }) + ByteArray.size r) 9223372036854775807 then
                g1 r0 (out3 ++ { data := #[43] } ++ r) s7 (IntKind.wrap IntKind.i64 (s8 + 1))
              else none
          else none
        else
          Option.bind (s_l1Num_n (rdk kint r0 s8)) fun r =>
            bif Nat.ble (ByteArray.size out3 + ByteArray.size r) 9223372036854775807 then g1 r0 (out3 ++ r) s7 (IntKind.wrap IntKind.i64 (s8 + 1)) else none
      else none
    else none
  else some out3
noncomputable def s_cpText_t0 (g1 : List (Int) → ByteArray → Int → Int → Option (ByteArray)) (rolls0 : List Int) : Option ByteArray :=
  g1 rolls0 { data := #[] } (↑(List.length rolls0) : Int) 0
theorem s_cpText_ts : Tails c_s_cpText.pts c_s_cpText.round :=
  ⟨fun s => by
    obtain ⟨⟨r0, _⟩, ⟨out3, _, s7, s8, _⟩, ⟨_, _⟩⟩ := s
    refine Tail.eq (Y := fun g => s_cpText_t1 (fun r0 out3 s7 s8 => g.1 ((r0, ()), (out3, (), s7, s8, ()), ((), ()))) r0 out3 s7 s8) ?_ (fun g => by kernel_rfl)
    simp only [s_cpText_t1]; repeat (first | apply Tail.cond | (apply Tail.bind; intro _) | exact Tail.here _ | exact Tail.there (Tail.here _) | exact Tail.there (Tail.there (Tail.here _)) | exact Tail.there (Tail.there (Tail.there (Tail.here _))) | exact Tail.there (Tail.there (Tail.there (Tail.there (Tail.here _)))) | exact Tail.there (Tail.there (Tail.there (Tail.there (Tail.there (Tail.here _))))) | exact Tail.const _), trivial⟩
theorem s_cpText_hs : ∀ x, Tail c_s_cpText.pts (fun g => c_s_cpText.start g x) := fun x => by
    obtain ⟨rolls0, _⟩ := x
    refine Tail.eq (Y := fun g => s_cpText_t0 (fun r0 out3 s7 s8 => g.1 ((r0, ()), (out3, (), s7, s8, ()), ((), ()))) rolls0) ?_ (fun g => by kernel_rfl)
    simp only [s_cpText_t0]; repeat (first | apply Tail.cond | (apply Tail.bind; intro _) | exact Tail.here _ | exact Tail.there (Tail.here _) | exact Tail.there (Tail.there (Tail.here _)) | exact Tail.there (Tail.there (Tail.there (Tail.here _))) | exact Tail.there (Tail.there (Tail.there (Tail.there (Tail.here _)))) | exact Tail.there (Tail.there (Tail.there (Tail.there (Tail.there (Tail.here _))))) | exact Tail.const _)
noncomputable def s_cpText_L1 (r0 : List (Int)) (out3 : ByteArray) (s7 : Int) (s8 : Int) : Option ByteArray := c_s_cpText.L.1 ((r0, ()), (out3, (), s7, s8, ()), ((), ()))
theorem s_cpText_u1 (r0 : List (Int)) (out3 : ByteArray) (s7 : Int) (s8 : Int) : s_cpText_L1 r0 out3 s7 s8 = s_cpText_t1 s_cpText_L1 r0 out3 s7 s8 :=
  (congrArg (fun g => g.1 ((r0, ()), (out3, (), s7, s8, ()), ((), ()))) (FnCx.L_eq s_cpText_ts)).trans (by kernel_rfl)
noncomputable def s_cpText (rolls0 : List Int) : Option ByteArray := s_cpText_t0 s_cpText_L1 rolls0
theorem s_cpText_e (rolls0 : List Int) : c_s_cpText.start c_s_cpText.L (rolls0, ()) = s_cpText rolls0 := by kernel_rfl
noncomputable def F_s_cpText : Ins c_s_cpText.ins → Option ByteArray := fun x => s_cpText x.1
noncomputable def S_s_cpText : FSpec := mkF c_s_cpText.env.pre c_s_cpText.ins c_s_cpText.out c_s_cpText.inj F_s_cpText
theorem h_s_cpText : Cert Tryd.prog 25 S_s_cpText := FnCx.certF (c := c_s_cpText) F_s_cpText (tyOk _ _ _) (spOk ⟨h_s_l1Num, fun _ _ h => h, trivial⟩) (fun _ _ _ _ _ hs => noDr_ok) Tryd.func25 rfl rfl Tryd.ntmps25 (by kernel_rfl) rfl rfl (fun _ => rfl) s_cpText_ts s_cpText_hs (fun x t hb ht => by
  obtain ⟨rolls0, _⟩ := x
  exact (s_cpText_e rolls0).trans ht)
/-! spec.RollsText -/
noncomputable def c_s_RollsText : FnCx := { env := env 9 [(24, S_s_cpRolls), (25, S_s_cpText)] [], body := bodyOf Tryd.f7, res := [.tmp 2, .tmp 3], ins := [.ro kSint], out := [(kstring, true), (kbool, true)], T := ByteArray × Bool, fin := fun r => (r.1.1, r.1.2.1), inj := fun t => ((t.1, t.2, ()), ((), ())), pts := [], fuel := 400, dr := noDr }
noncomputable def s_RollsText (rolls0 : List Int) : Option (ByteArray × Bool) :=
  bif !s_cpRolls rolls0 then some ({ data := #[] }, false) else Option.bind (s_cpText rolls0) fun r => some (r, true)
theorem s_RollsText_e (rolls0 : List Int) : c_s_RollsText.start c_s_RollsText.L (rolls0, ()) = s_RollsText rolls0 := by kernel_rfl
noncomputable def F_s_RollsText : Ins c_s_RollsText.ins → Option (ByteArray × Bool) := fun x => s_RollsText x.1
noncomputable def S_s_RollsText : FSpec := mkF c_s_RollsText.env.pre c_s_RollsText.ins c_s_RollsText.out c_s_RollsText.inj F_s_RollsText
theorem h_s_RollsText : Cert Tryd.prog 7 S_s_RollsText := FnCx.certF (c := c_s_RollsText) F_s_RollsText (tyOk _ _ _) (spOk ⟨h_s_cpRolls, fun _ _ h => h, ⟨h_s_cpText, fun _ _ h => h, trivial⟩⟩) (fun _ _ _ _ _ hs => noDr_ok) Tryd.func7 rfl rfl Tryd.ntmps7 (by kernel_rfl) rfl rfl (fun _ => rfl) trivial (fun x => .inl ⟨c_s_RollsText.start () x, fun _ => rfl⟩) (fun x t hb ht => by
  obtain ⟨rolls0, _⟩ := x
  exact (s_RollsText_e rolls0).trans ht)
/-! impl.within -/
noncomputable def c_i_within : FnCx := { env := env 15 [] [], body := bodyOf Tryd.f45, res := [.tmp 6], ins := [.ro kint, .ro kint, .ro kint], out := [(kbool, true)], T := Bool, fin := fun r => r.1.1, inj := fun t => ((t, ()), ((), (), (), ())), pts := [], fuel := 400, dr := noDr }
noncomputable def i_within (n0 : Int) (low1 : Int) (high2 : Int) : Bool :=
  bif decide (low1 ≤ n0) then decide (n0 ≤ high2) else false
theorem i_within_e (n0 : Int) (low1 : Int) (high2 : Int) : c_i_within.start c_i_within.L (n0, low1, high2, ()) = some (i_within n0 low1 high2) := by
  refine Eq.trans (b := (bif decide (low1 ≤ n0) then some (decide (n0 ≤ high2)) else some false : Option Bool)) (by kernel_rfl) ?_
  unfold i_within
  repeat (first | rfl | apply condS)
noncomputable def F_i_within : Ins c_i_within.ins → Bool := fun x => i_within x.1 x.2.1 x.2.2.1
noncomputable def S_i_within : FSpec := mkT c_i_within.env.pre c_i_within.ins c_i_within.out c_i_within.inj F_i_within
theorem h_i_within : Cert Tryd.prog 45 S_i_within := FnCx.certT (c := c_i_within) F_i_within (tyOk _ _ _) (spOk trivial) (fun _ _ _ _ _ hs => noDr_ok) Tryd.func45 rfl rfl Tryd.ntmps45 (by kernel_rfl) rfl rfl (fun _ => rfl) trivial (fun x => .inl ⟨c_i_within.start () x, fun _ => rfl⟩) (fun x hb => by
  obtain ⟨n0, low1, high2, _⟩ := x
  exact i_within_e n0 low1 high2)
/-! impl.isRoll -/
noncomputable def c_i_isRoll : FnCx := { env := env 5 [(45, S_i_within)] [], body := bodyOf Tryd.f48, res := [.tmp 2], ins := [.ro kint], out := [(kbool, true)], T := Bool, fin := fun r => r.1.1, inj := fun t => ((t, ()), ((), ())), pts := [], fuel := 400, dr := noDr }
noncomputable def i_isRoll (n0 : Int) : Bool :=
  i_within n0 1 2000
theorem i_isRoll_e (n0 : Int) : c_i_isRoll.start c_i_isRoll.L (n0, ()) = some (i_isRoll n0) := by kernel_rfl
noncomputable def F_i_isRoll : Ins c_i_isRoll.ins → Bool := fun x => i_isRoll x.1
noncomputable def S_i_isRoll : FSpec := mkT c_i_isRoll.env.pre c_i_isRoll.ins c_i_isRoll.out c_i_isRoll.inj F_i_isRoll
theorem h_i_isRoll : Cert Tryd.prog 48 S_i_isRoll := FnCx.certT (c := c_i_isRoll) F_i_isRoll (tyOk _ _ _) (spOk ⟨h_i_within, fun _ _ h => h, trivial⟩) (fun _ _ _ _ _ hs => noDr_ok) Tryd.func48 rfl rfl Tryd.ntmps48 (by kernel_rfl) rfl rfl (fun _ => rfl) trivial (fun x => .inl ⟨c_i_isRoll.start () x, fun _ => rfl⟩) (fun x hb => by
  obtain ⟨n0, _⟩ := x
  exact i_isRoll_e n0)
/-! impl.AreRolls$1 -/
noncomputable def c_i_AreRolls_c1 : FnCx := { env := env 6 [(48, S_i_isRoll)] [], body := bodyOf Tryd.f47, res := [.tmp 2], ins := [.ro kint], out := [(kbool, true)], T := Bool, fin := fun r => r.1.1, inj := fun t => ((t, ()), ((), ())), pts := [], fuel := 400, dr := noDr }
noncomputable def i_AreRolls_c1 (n0 : Int) : Bool :=
  !i_isRoll n0
theorem i_AreRolls_c1_e (n0 : Int) : c_i_AreRolls_c1.start c_i_AreRolls_c1.L (n0, ()) = some (i_AreRolls_c1 n0) := by kernel_rfl
noncomputable def F_i_AreRolls_c1 : Ins c_i_AreRolls_c1.ins → Bool := fun x => i_AreRolls_c1 x.1
noncomputable def S_i_AreRolls_c1 : FSpec := mkT c_i_AreRolls_c1.env.pre c_i_AreRolls_c1.ins c_i_AreRolls_c1.out c_i_AreRolls_c1.inj F_i_AreRolls_c1
theorem h_i_AreRolls_c1 : Cert Tryd.prog 47 S_i_AreRolls_c1 := FnCx.certT (c := c_i_AreRolls_c1) F_i_AreRolls_c1 (tyOk _ _ _) (spOk ⟨h_i_isRoll, fun _ _ h => h, trivial⟩) (fun _ _ _ _ _ hs => noDr_ok) Tryd.func47 rfl rfl Tryd.ntmps47 (by kernel_rfl) rfl rfl (fun _ => rfl) trivial (fun x => .inl ⟨c_i_AreRolls_c1.start () x, fun _ => rfl⟩) (fun x hb => by
  obtain ⟨n0, _⟩ := x
  exact i_AreRolls_c1_e n0)
/-! slices.IndexFunc[[]int,int] -/
noncomputable def c_slices_IndexFunc_int__i_AreRolls_c1 : FnCx := { env := env 19 [(47, S_i_AreRolls_c1)] [], body := bodyOf Tryd.f61, res := [.tmp 4], ins := [.ro kSint, .fn 47 []], out := [(kint, true)], T := Int, fin := fun r => r.1.1, inj := fun t => ((t, ()), ((), (), ())), pts := [([.inLoop [1, 0, 1, 0, 0], .inBlock 0, .code [1, 1]], Shape.mk [Bs.row kint 3 false] [(0, Ss.one (Cs.sl 0)), (1, Ss.fn 47 []), (7, Ss.one (Cs.sc kint)), (8, Ss.one (Cs.sc kint))] [Ss.one (Cs.any), Ss.fn 47 []])], fuel := 400, dr := noDr }
noncomputable def slices_IndexFunc_int__i_AreRolls_c1_t1 (g1 : List (Int) → Int → Int → Option (Int)) (r0 : List (Int)) (s7 : Int) (s8 : Int) : Option Int :=
  bif decide (s8 < s7) then
    bif decide (0 ≤ s8) then
      bif decide (s8 < (↑(List.length r0) : Int)) then
        bif i_AreRolls_c1 (rdk kint r0 s8) then some s8 else g1 r0 s7 (IntKind.wrap IntKind.i64 (s8 + 1))
      else none
    else none
  else some (-1)
noncomputable def slices_IndexFunc_int__i_AreRolls_c1_t0 (g1 : List (Int) → Int → Int → Option (Int)) (s0 : List Int) : Option Int :=
  g1 s0 (↑(List.length s0) : Int) 0
theorem slices_IndexFunc_int__i_AreRolls_c1_ts : Tails c_slices_IndexFunc_int__i_AreRolls_c1.pts c_slices_IndexFunc_int__i_AreRolls_c1.round :=
  ⟨fun s => by
    obtain ⟨⟨r0, _⟩, ⟨_, _, s7, s8, _⟩, ⟨_, _, _⟩⟩ := s
    refine Tail.eq (Y := fun g => slices_IndexFunc_int__i_AreRolls_c1_t1 (fun r0 s7 s8 => g.1 ((r0, ()), ((), (), s7, s8, ()), ((), (), ()))) r0 s7 s8) ?_ (fun g => by kernel_rfl)
    simp only [slices_IndexFunc_int__i_AreRolls_c1_t1]; repeat (first | exact Tail.const _ | exact Tail.here _ | exact Tail.there (Tail.here _) | exact Tail.there (Tail.there (Tail.here _)) | exact Tail.there (Tail.there (Tail.there (Tail.here _))) | exact Tail.there (Tail.there (Tail.there (Tail.there (Tail.here _)))) | exact Tail.there (Tail.there (Tail.there (Tail.there (Tail.there (Tail.here _))))) | apply Tail.cond | (apply Tail.bind; intro _)), trivial⟩
theorem slices_IndexFunc_int__i_AreRolls_c1_hs : ∀ x, Tail c_slices_IndexFunc_int__i_AreRolls_c1.pts (fun g => c_slices_IndexFunc_int__i_AreRolls_c1.start g x) := fun x => by
    obtain ⟨s0, _, _⟩ := x
    refine Tail.eq (Y := fun g => slices_IndexFunc_int__i_AreRolls_c1_t0 (fun r0 s7 s8 => g.1 ((r0, ()), ((), (), s7, s8, ()), ((), (), ()))) s0) ?_ (fun g => by kernel_rfl)
    simp only [slices_IndexFunc_int__i_AreRolls_c1_t0]; repeat (first | exact Tail.const _ | exact Tail.here _ | exact Tail.there (Tail.here _) | exact Tail.there (Tail.there (Tail.here _)) | exact Tail.there (Tail.there (Tail.there (Tail.here _))) | exact Tail.there (Tail.there (Tail.there (Tail.there (Tail.here _)))) | exact Tail.there (Tail.there (Tail.there (Tail.there (Tail.there (Tail.here _))))) | apply Tail.cond | (apply Tail.bind; intro _))
noncomputable def slices_IndexFunc_int__i_AreRolls_c1_L1 (r0 : List (Int)) (s7 : Int) (s8 : Int) : Option Int := c_slices_IndexFunc_int__i_AreRolls_c1.L.1 ((r0, ()), ((), (), s7, s8, ()), ((), (), ()))
theorem slices_IndexFunc_int__i_AreRolls_c1_u1 (r0 : List (Int)) (s7 : Int) (s8 : Int) : slices_IndexFunc_int__i_AreRolls_c1_L1 r0 s7 s8 = slices_IndexFunc_int__i_AreRolls_c1_t1 slices_IndexFunc_int__i_AreRolls_c1_L1 r0 s7 s8 :=
  (congrArg (fun g => g.1 ((r0, ()), ((), (), s7, s8, ()), ((), (), ()))) (FnCx.L_eq slices_IndexFunc_int__i_AreRolls_c1_ts)).trans (by kernel_rfl)
noncomputable def slices_IndexFunc_int__i_AreRolls_c1 (s0 : List Int) : Option Int := slices_IndexFunc_int__i_AreRolls_c1_t0 slices_IndexFunc_int__i_AreRolls_c1_L1 s0
theorem slices_IndexFunc_int__i_AreRolls_c1_e (s0 : List Int) : c_slices_IndexFunc_int__i_AreRolls_c1.start c_slices_IndexFunc_int__i_AreRolls_c1.L (s0, (), ()) = slices_IndexFunc_int__i_AreRolls_c1 s0 := by kernel_rfl
-- NICE tot
noncomputable def slices_IndexFunc_int__i_AreRolls_c1_n (l : List Int) : Int := idxF (fun x => i_AreRolls_c1 x) l 0
theorem slices_IndexFunc_int__i_AreRolls_c1_ok (l : List Int) (hb : BdI c_slices_IndexFunc_int__i_AreRolls_c1.ins (l, (), ())) : slices_IndexFunc_int__i_AreRolls_c1 l = some (slices_IndexFunc_int__i_AreRolls_c1_n l) :=
  have hm : l.length ≤ maxLen := hb.1.1
  loop_idx (L := fun i => slices_IndexFunc_int__i_AreRolls_c1_L1 l l.length (i : Int)) (l := l) (p := fun x => i_AreRolls_c1 x)
    (fun i h => by simp only [slices_IndexFunc_int__i_AreRolls_c1_u1 l l.length i, slices_IndexFunc_int__i_AreRolls_c1_t1, rdk_get (k := kint) h, wrapS h hm]; simp [h]) (by simp [slices_IndexFunc_int__i_AreRolls_c1_u1 l l.length l.length, slices_IndexFunc_int__i_AreRolls_c1_t1])
noncomputable def F_slices_IndexFunc_int__i_AreRolls_c1 : Ins c_slices_IndexFunc_int__i_AreRolls_c1.ins → Int := fun x => slices_IndexFunc_int__i_AreRolls_c1_n x.1
noncomputable def S_slices_IndexFunc_int__i_AreRolls_c1 : FSpec := mkT c_slices_IndexFunc_int__i_AreRolls_c1.env.pre c_slices_IndexFunc_int__i_AreRolls_c1.ins c_slices_IndexFunc_int__i_AreRolls_c1.out c_slices_IndexFunc_int__i_AreRolls_c1.inj F_slices_IndexFunc_int__i_AreRolls_c1
theorem h_slices_IndexFunc_int__i_AreRolls_c1 : Cert Tryd.prog 61 S_slices_IndexFunc_int__i_AreRolls_c1 := FnCx.certT (c := c_slices_IndexFunc_int__i_AreRolls_c1) F_slices_IndexFunc_int__i_AreRolls_c1 (tyOk _ _ _) (spOk ⟨h_i_AreRolls_c1, fun _ _ h => h, trivial⟩) (fun _ _ _ _ _ hs => noDr_ok) Tryd.func61 rfl rfl Tryd.ntmps61 (by kernel_rfl) rfl rfl (fun _ => rfl) slices_IndexFunc_int__i_AreRolls_c1_ts slices_IndexFunc_int__i_AreRolls_c1_hs (fun x hb => by
  obtain ⟨s0, _, _⟩ := x
  exact (slices_IndexFunc_int__i_AreRolls_c1_e s0).trans (slices_IndexFunc_int__i_AreRolls_c1_ok s0 hb))
/-! slices.ContainsFunc[[]int,int] -/
noncomputable def c_slices_ContainsFunc_int__i_AreRolls_c1 : FnCx := { env := env 9 [(61, S_slices_IndexFunc_int__i_AreRolls_c1)] [], body := bodyOf Tryd.f46, res := [.tmp 4], ins := [.ro kSint, .fn 47 []], out := [(kbool, true)], T := Bool, fin := fun r => r.1.1, inj := fun t => ((t, ()), ((), (), ())), pts := [], fuel := 400, dr := noDr }
noncomputable def slices_ContainsFunc_int__i_AreRolls_c1 (s0 : List Int) : Bool :=
  decide (slices_IndexFunc_int__i_AreRolls_c1_n s0 ≥ 0)
theorem slices_ContainsFunc_int__i_AreRolls_c1_e (s0 : List Int) : c_slices_ContainsFunc_int__i_AreRolls_c1.start c_slices_ContainsFunc_int__i_AreRolls_c1.L (s0, (), ()) = some (slices_ContainsFunc_int__i_AreRolls_c1 s0) := by kernel_rfl
noncomputable def F_slices_ContainsFunc_int__i_AreRolls_c1 : Ins c_slices_ContainsFunc_int__i_AreRolls_c1.ins → Bool := fun x => slices_ContainsFunc_int__i_AreRolls_c1 x.1
noncomputable def S_slices_ContainsFunc_int__i_AreRolls_c1 : FSpec := mkT c_slices_ContainsFunc_int__i_AreRolls_c1.env.pre c_slices_ContainsFunc_int__i_AreRolls_c1.ins c_slices_ContainsFunc_int__i_AreRolls_c1.out c_slices_ContainsFunc_int__i_AreRolls_c1.inj F_slices_ContainsFunc_int__i_AreRolls_c1
theorem h_slices_ContainsFunc_int__i_AreRolls_c1 : Cert Tryd.prog 46 S_slices_ContainsFunc_int__i_AreRolls_c1 := FnCx.certT (c := c_slices_ContainsFunc_int__i_AreRolls_c1) F_slices_ContainsFunc_int__i_AreRolls_c1 (tyOk _ _ _) (spOk ⟨h_slices_IndexFunc_int__i_AreRolls_c1, fun _ _ h => h, trivial⟩) (fun _ _ _ _ _ hs => noDr_ok) Tryd.func46 rfl rfl Tryd.ntmps46 (by kernel_rfl) rfl rfl (fun _ => rfl) trivial (fun x => .inl ⟨c_slices_ContainsFunc_int__i_AreRolls_c1.start () x, fun _ => rfl⟩) (fun x hb => by
  obtain ⟨s0, _, _⟩ := x
  exact slices_ContainsFunc_int__i_AreRolls_c1_e s0)
/-! impl.AreRolls -/
noncomputable def c_i_AreRolls : FnCx := { env := env 11 [(45, S_i_within), (46, S_slices_ContainsFunc_int__i_AreRolls_c1)] [], body := bodyOf Tryd.f26, res := [.tmp 2], ins := [.ro kSint], out := [(kbool, true)], T := Bool, fin := fun r => r.1.1, inj := fun t => ((t, ()), ((), ())), pts := [], fuel := 400, dr := noDr }
noncomputable def i_AreRolls (rolls0 : List Int) : Bool :=
  bif i_within (↑(List.length rolls0) : Int) 1 8 then !slices_ContainsFunc_int__i_AreRolls_c1 rolls0 else false
theorem i_AreRolls_e (rolls0 : List Int) : c_i_AreRolls.start c_i_AreRolls.L (rolls0, ()) = some (i_AreRolls rolls0) := by
  refine Eq.trans (b := (bif i_within (↑(List.length rolls0) : Int) 1 8 then some !slices_ContainsFunc_int__i_AreRolls_c1 rolls0 else some false : Option Bool)) (by kernel_rfl) ?_
  unfold i_AreRolls
  repeat (first | rfl | apply condS)
noncomputable def F_i_AreRolls : Ins c_i_AreRolls.ins → Bool := fun x => i_AreRolls x.1
noncomputable def S_i_AreRolls : FSpec := mkT c_i_AreRolls.env.pre c_i_AreRolls.ins c_i_AreRolls.out c_i_AreRolls.inj F_i_AreRolls
theorem h_i_AreRolls : Cert Tryd.prog 26 S_i_AreRolls := FnCx.certT (c := c_i_AreRolls) F_i_AreRolls (tyOk _ _ _) (spOk ⟨h_i_within, fun _ _ h => h, ⟨h_slices_ContainsFunc_int__i_AreRolls_c1, fun _ _ h => h, trivial⟩⟩) (fun _ _ _ _ _ hs => noDr_ok) Tryd.func26 rfl rfl Tryd.ntmps26 (by kernel_rfl) rfl rfl (fun _ => rfl) trivial (fun x => .inl ⟨c_i_AreRolls.start () x, fun _ => rfl⟩) (fun x hb => by
  obtain ⟨rolls0, _⟩ := x
  exact i_AreRolls_e rolls0)
/-! strconv.Itoa -/
noncomputable def strconv_Itoa (n : Int) : Option ByteArray := itoaF n
noncomputable def F_strconv_Itoa : Ins [.ro kint] → Option ByteArray := fun x => strconv_Itoa x.1
noncomputable def S_strconv_Itoa : FSpec := mkF (T := ByteArray) textPre [.ro kint] [(.str, true)] (fun t => ((t, ()), ((), ()))) F_strconv_Itoa
theorem h_strconv_Itoa : Cert Tryd.prog 49 S_strconv_Itoa := itoa_cert litoa rfl ⟨_, Tryd.func49, rfl, by kernel_rfl⟩ (by simp [textL])
/-! strings.Join -/
theorem xjoin : Builder.Extra Tryd.prog ljoin_ren where
  sizeBuilder := by kernel_rfl
  liesBuilder := by kernel_rfl
  t5 := Tryd.underlying5
  a5 := Tryd.isAgg5
  z5 := Tryd.sizeOf5
  v5 := Tryd.zeroValue5
  infoByte := by kernel_rfl
  cellsByte := by kernel_rfl
  sizeByte := by kernel_rfl
  neB5 := by decide
noncomputable def strings_Join (xs : List ByteArray) (s : ByteArray) : Option ByteArray := joinF xs s
noncomputable def F_strings_Join : Ins [.ro kSstring, .ro kstring] → Option ByteArray := fun x => strings_Join x.1 x.2.1
noncomputable def S_strings_Join : FSpec := mkF (T := ByteArray) textPre [.ro kSstring, .ro kstring] [(.str, true)] (fun t => ((t, ()), ((), (), ()))) F_strings_Join
theorem h_strings_Join : Cert Tryd.prog 33 S_strings_Join := join_cert rfl ljoin xjoin rfl ⟨_, Tryd.func33, rfl, by kernel_rfl⟩
/-! impl.joined -/
noncomputable def c_i_joined : FnCx := { env := env 24 [(49, S_strconv_Itoa), (33, S_strings_Join)] [], body := bodyOf Tryd.f27, res := [.tmp 4], ins := [.ro kSint, .ro kstring], out := [(kstring, true)], T := ByteArray, fin := fun r => r.1.1, inj := fun t => ((t, ()), ((), (), ())), pts := [([.inLoop [1, 1, 0, 1, 0, 0], .inBlock 0, .code [1, 1, 1]], Shape.mk [Bs.row kstring 9 true, Bs.row kint 3 false] [(1, Ss.one (Cs.sc kstring)), (5, Ss.one (Cs.sl 0)), (9, Ss.one (Cs.sl 1)), (10, Ss.one (Cs.sc kint)), (11, Ss.one (Cs.sc kint))] [Ss.one (Cs.any), Ss.one (Cs.any)])], fuel := 400, dr := noDr }
noncomputable def i_joined_t1 (g1 : List (ByteArray) → List (Int) → ByteArray → Int → Int → Option (ByteArray)) (r0 : List (ByteArray)) (r1 : List (Int)) (between1 : ByteArray) (s10 : Int) (s11 : Int) : Option ByteArray :=
  bif decide (s11 < s10) then
    bif decide (0 ≤ s11) then
      bif decide (s11 < (↑(List.length r1) : Int)) then
        Option.bind (strconv_Itoa (rdk kint r1 s11)) fun r =>
          bif Nat.ble (List.length r0 + 1) 4294967296 then g1 (r0 ++ [r]) r1 between1 s10 (IntKind.wrap IntKind.i64 (s11 + 1)) else none
      else none
    else none
  else Option.bind (strings_Join r0 between1) fun r => some r
noncomputable def i_joined_t0 (g1 : List (ByteArray) → List (Int) → ByteArray → Int → Int → Option (ByteArray)) (l0 : List Int) (between1 : ByteArray) : Option ByteArray :=
  g1 [] l0 between1 (↑(List.length l0) : Int) 0
theorem i_joined_ts : Tails c_i_joined.pts c_i_joined.round :=
  ⟨fun s => by
    obtain ⟨⟨r0, r1, _⟩, ⟨between1, _, _, s10, s11, _⟩, ⟨_, _, _⟩⟩ := s
    refine Tail.eq (Y := fun g => i_joined_t1 (fun r0 r1 between1 s10 s11 => g.1 ((r0, r1, ()), (between1, (), (), s10, s11, ()), ((), (), ()))) r0 r1 between1 s10 s11) ?_ (fun g => by kernel_rfl)
    simp only [i_joined_t1]; repeat (first | exact Tail.const _ | exact Tail.here _ | exact Tail.there (Tail.here _) | exact Tail.there (Tail.there (Tail.here _)) | exact Tail.there (Tail.there (Tail.there (Tail.here _))) | exact Tail.there (Tail.there (Tail.there (Tail.there (Tail.here _)))) | exact Tail.there (Tail.there (Tail.there (Tail.there (Tail.there (Tail.here _))))) | apply Tail.cond | (apply Tail.bind; intro _)), trivial⟩
theorem i_joined_hs : ∀ x, Tail c_i_joined.pts (fun g => c_i_joined.start g x) := fun x => by
    obtain ⟨l0, between1, _⟩ := x
    refine Tail.eq (Y := fun g => i_joined_t0 (fun r0 r1 between1 s10 s11 => g.1 ((r0, r1, ()), (between1, (), (), s10, s11, ()), ((), (), ()))) l0 between1) ?_ (fun g => by kernel_rfl)
    simp only [i_joined_t0]; repeat (first | exact Tail.const _ | exact Tail.here _ | exact Tail.there (Tail.here _) | exact Tail.there (Tail.there (Tail.here _)) | exact Tail.there (Tail.there (Tail.there (Tail.here _))) | exact Tail.there (Tail.there (Tail.there (Tail.there (Tail.here _)))) | exact Tail.there (Tail.there (Tail.there (Tail.there (Tail.there (Tail.here _))))) | apply Tail.cond | (apply Tail.bind; intro _))
noncomputable def i_joined_L1 (r0 : List (ByteArray)) (r1 : List (Int)) (between1 : ByteArray) (s10 : Int) (s11 : Int) : Option ByteArray := c_i_joined.L.1 ((r0, r1, ()), (between1, (), (), s10, s11, ()), ((), (), ()))
theorem i_joined_u1 (r0 : List (ByteArray)) (r1 : List (Int)) (between1 : ByteArray) (s10 : Int) (s11 : Int) : i_joined_L1 r0 r1 between1 s10 s11 = i_joined_t1 i_joined_L1 r0 r1 between1 s10 s11 :=
  (congrArg (fun g => g.1 ((r0, r1, ()), (between1, (), (), s10, s11, ()), ((), (), ()))) (FnCx.L_eq i_joined_ts)).trans (by kernel_rfl)
noncomputable def i_joined (l0 : List Int) (between1 : ByteArray) : Option ByteArray := i_joined_t0 i_joined_L1 l0 between1
theorem i_joined_e (l0 : List Int) (between1 : ByteArray) : c_i_joined.start c_i_joined.L (l0, between1, ()) = i_joined l0 between1 := by kernel_rfl
noncomputable def F_i_joined : Ins c_i_joined.ins → Option ByteArray := fun x => i_joined x.1 x.2.1
noncomputable def S_i_joined : FSpec := mkF c_i_joined.env.pre c_i_joined.ins c_i_joined.out c_i_joined.inj F_i_joined
theorem h_i_joined : Cert Tryd.prog 27 S_i_joined := FnCx.certF (c := c_i_joined) F_i_joined (tyOk _ _ _) (spOk ⟨h_strconv_Itoa, fun _ _ h => h, ⟨h_strings_Join, fun _ _ h => h, trivial⟩⟩) (fun _ _ _ _ _ hs => noDr_ok) Tryd.func27 rfl rfl Tryd.ntmps27 (by kernel_rfl) rfl rfl (fun _ => rfl) i_joined_ts i_joined_hs (fun x t hb ht => by
  obtain ⟨l0, between1, _⟩ := x
  exact (i_joined_e l0 between1).trans ht)
/-! impl.RollsText -/
noncomputable def c_i_RollsText : FnCx := { env := env 9 [(26, S_i_AreRolls), (27, S_i_joined)] [], body := bodyOf Tryd.f9, res := [.tmp 2, .tmp 3], ins := [.ro kSint], out := [(kstring, true), (kbool, true)], T := ByteArray × Bool, fin := fun r => (r.1.1, r.1.2.1), inj := fun t => ((t.1, t.2, ()), ((), ())), pts := [], fuel := 400, dr := noDr }
noncomputable def i_RollsText (rolls0 : List Int) : Option (ByteArray × Bool) :=
  bif !i_AreRolls rolls0 then some ({ data := #[] }, false) else Option.bind (i_joined rolls0 { data := #[43] }) fun r => some (r, true)
theorem i_RollsText_e (rolls0 : List Int) : c_i_RollsText.start c_i_RollsText.L (rolls0, ()) = i_RollsText rolls0 := by kernel_rfl
noncomputable def F_i_RollsText : Ins c_i_RollsText.ins → Option (ByteArray × Bool) := fun x => i_RollsText x.1
noncomputable def S_i_RollsText : FSpec := mkF c_i_RollsText.env.pre c_i_RollsText.ins c_i_RollsText.out c_i_RollsText.inj F_i_RollsText
theorem h_i_RollsText : Cert Tryd.prog 9 S_i_RollsText := FnCx.certF (c := c_i_RollsText) F_i_RollsText (tyOk _ _ _) (spOk ⟨h_i_AreRolls, fun _ _ h => h, ⟨h_i_joined, fun _ _ h => h, trivial⟩⟩) (fun _ _ _ _ _ hs => noDr_ok) Tryd.func9 rfl rfl Tryd.ntmps9 (by kernel_rfl) rfl rfl (fun _ => rfl) trivial (fun x => .inl ⟨c_i_RollsText.start () x, fun _ => rfl⟩) (fun x t hb ht => by
  obtain ⟨rolls0, _⟩ := x
  exact (i_RollsText_e rolls0).trans ht)
/-! laws.eqIntS -/
noncomputable def c_w_eqIntS : FnCx := { env := env 26 [] [], body := bodyOf Tryd.f10, res := [.tmp 4], ins := [.ro kSint, .ro kSint], out := [(kbool, true)], T := Bool, fin := fun r => r.1.1, inj := fun t => ((t, ()), ((), (), ())), pts := [([.inLoop [1, 1, 0, 1, 0, 0], .inBlock 0, .code [1, 1, 1]], Shape.mk [Bs.row kint 3 false, Bs.row kint 3 false] [(0, Ss.one (Cs.sl 0)), (1, Ss.one (Cs.sl 1)), (5, Ss.one (Cs.sc kint))] [Ss.one (Cs.any), Ss.one (Cs.any)])], fuel := 400, dr := evDr (env 26 [] []) }
noncomputable def w_eqIntS_t1 (g1 : List (Int) → List (Int) → Int → Option (Bool)) (r0 : List (Int)) (r1 : List (Int)) (i5 : Int) : Option Bool :=
  bif decide (i5 < (↑(List.length r0) : Int)) then
    bif decide (0 ≤ i5) then
      bif decide (i5 < (↑(List.length r0) : Int)) then
        bif decide (0 ≤ i5) then
          bif decide (i5 < (↑(List.length r1) : Int)) then
            bif rdk kint r0 i5 != rdk kint r1 i5 then some false else g1 r0 r1 (IntKind.wrap IntKind.i64 (i5 + 1))
          else none
        else none
      else none
    else none
  else some true
noncomputable def w_eqIntS_t0 (g1 : List (Int) → List (Int) → Int → Option (Bool)) (a0 : List Int) (b1 : List Int) : Option Bool :=
  bif (↑(List.length a0) : Int) != (↑(List.length b1) : Int) then some false else g1 a0 b1 0
theorem w_eqIntS_ts : Tails c_w_eqIntS.pts c_w_eqIntS.round :=
  ⟨fun s => by
    obtain ⟨⟨r0, r1, _⟩, ⟨_, _, i5, _⟩, ⟨_, _, _⟩⟩ := s
    refine Tail.eq (Y := fun g => w_eqIntS_t1 (fun r0 r1 i5 => g.1 ((r0, r1, ()), ((), (), i5, ()), ((), (), ()))) r0 r1 i5) ?_ (fun g => by kernel_rfl)
    simp only [w_eqIntS_t1]; repeat (first | exact Tail.const _ | exact Tail.here _ | exact Tail.there (Tail.here _) | exact Tail.there (Tail.there (Tail.here _)) | exact Tail.there (Tail.there (Tail.there (Tail.here _))) | exact Tail.there (Tail.there (Tail.there (Tail.there (Tail.here _)))) | exact Tail.there (Tail.there (Tail.there (Tail.there (Tail.there (Tail.here _))))) | apply Tail.cond | (apply Tail.bind; intro _)), trivial⟩
theorem w_eqIntS_hs : ∀ x, Tail c_w_eqIntS.pts (fun g => c_w_eqIntS.start g x) := fun x => by
    obtain ⟨a0, b1, _⟩ := x
    refine Tail.eq (Y := fun g => w_eqIntS_t0 (fun r0 r1 i5 => g.1 ((r0, r1, ()), ((), (), i5, ()), ((), (), ()))) a0 b1) ?_ (fun g => by kernel_rfl)
    simp only [w_eqIntS_t0]; repeat (first | exact Tail.const _ | exact Tail.here _ | exact Tail.there (Tail.here _) | exact Tail.there (Tail.there (Tail.here _)) | exact Tail.there (Tail.there (Tail.there (Tail.here _))) | exact Tail.there (Tail.there (Tail.there (Tail.there (Tail.here _)))) | exact Tail.there (Tail.there (Tail.there (Tail.there (Tail.there (Tail.here _))))) | apply Tail.cond | (apply Tail.bind; intro _))
noncomputable def w_eqIntS_L1 (r0 : List (Int)) (r1 : List (Int)) (i5 : Int) : Option Bool := c_w_eqIntS.L.1 ((r0, r1, ()), ((), (), i5, ()), ((), (), ()))
theorem w_eqIntS_u1 (r0 : List (Int)) (r1 : List (Int)) (i5 : Int) : w_eqIntS_L1 r0 r1 i5 = w_eqIntS_t1 w_eqIntS_L1 r0 r1 i5 :=
  (congrArg (fun g => g.1 ((r0, r1, ()), ((), (), i5, ()), ((), (), ()))) (FnCx.L_eq w_eqIntS_ts)).trans (by kernel_rfl)
noncomputable def w_eqIntS (a0 : List Int) (b1 : List Int) : Option Bool := w_eqIntS_t0 w_eqIntS_L1 a0 b1
theorem w_eqIntS_e (a0 : List Int) (b1 : List Int) : c_w_eqIntS.start c_w_eqIntS.L (a0, b1, ()) = w_eqIntS a0 b1 := by kernel_rfl
-- NICE tot
noncomputable def w_eqIntS_n (a b : List Int) : Bool := decide (a = b)
theorem w_eqIntS_ok (a b : List Int) (hb : BdI c_w_eqIntS.ins (a, b, ())) : w_eqIntS a b = some (w_eqIntS_n a b) := by
  unfold w_eqIntS w_eqIntS_t0 w_eqIntS_n
  by_cases hl : a.length = b.length
  · have e := loop_eq (L := fun i => w_eqIntS_L1 a b (i : Int)) hl (fun i h h' => by
        simp only [w_eqIntS_u1 a b i, w_eqIntS_t1, rdk_get (k := kint) h, rdk_get (k := kint) h', wrapS h hb.1.1]
        have hne : (a[i] != b[i]) = !decide (a[i] = b[i]) := rfl
        by_cases hx : a[i] = b[i] <;> simp [h, h', hx, hne]) (by simp [w_eqIntS_u1 a b a.length, w_eqIntS_t1])
    simpa [hl] using e
  · have hab : a ≠ b := fun e => hl (by rw [e])
    have : ((a.length : Int) != (b.length : Int)) = true := by simp; omega
    rw [this]
    simp [hab]
noncomputable def F_w_eqIntS : Ins c_w_eqIntS.ins → Bool := fun x => w_eqIntS_n x.1 x.2.1
noncomputable def S_w_eqIntS : FSpec := mkT c_w_eqIntS.env.pre c_w_eqIntS.ins c_w_eqIntS.out c_w_eqIntS.inj F_w_eqIntS
theorem h_w_eqIntS : Cert Tryd.prog 10 S_w_eqIntS := FnCx.certT (c := c_w_eqIntS) F_w_eqIntS (tyOk _ _ _) (spOk trivial) (fun _ _ _ _ _ hs => evDr_ok (tyOk _ _ _) hs follows) Tryd.func10 rfl rfl Tryd.ntmps10 (by kernel_rfl) rfl rfl (fun _ => rfl) w_eqIntS_ts w_eqIntS_hs (fun x hb => by
  obtain ⟨a0, b1, _⟩ := x
  exact (w_eqIntS_e a0 b1).trans (w_eqIntS_ok a0 b1 hb))
/-! laws.FnExactRollsText -/
noncomputable def c_w_FnExactRollsText : FnCx := { env := env 37 [(8, S_w_toIntS), (7, S_s_RollsText), (9, S_i_RollsText), (10, S_w_eqIntS)] [], body := bodyOf Tryd.f3, res := [.tmp 2], ins := [.ro kSint], out := [(kbool, true)], T := Bool, fin := fun r => r.1.1, inj := fun t => ((t, ()), ((), ())), pts := [], fuel := 400, dr := noDr }
noncomputable def w_FnExactRollsText (aRolls0 : List Int) : Option Bool :=
  bif decide ((↑(List.length aRolls0) : Int) > 1048576) then some true
  else
    Option.bind (w_toIntS_n aRolls0) fun r =>
      Option.bind (s_RollsText r) fun r =>
        Option.bind (w_toIntS_n aRolls0) fun r_1 =>
          Option.bind (i_RollsText r_1) fun r_2 =>
            bif !ByteArray.toList (Prod.fst r_2) == ByteArray.toList (Prod.fst r) then some false
            else
              bif !Prod.snd r_2 == Prod.snd r then some false else Option.bind (w_toIntS_n aRolls0) fun r => bif !w_eqIntS_n r_1 r then some false else some true
theorem w_FnExactRollsText_e (aRolls0 : List Int) : c_w_FnExactRollsText.start c_w_FnExactRollsText.L (aRolls0, ()) = w_FnExactRollsText aRolls0 := by kernel_rfl
noncomputable def F_w_FnExactRollsText : Ins c_w_FnExactRollsText.ins → Option Bool := fun x => w_FnExactRollsText x.1
noncomputable def S_w_FnExactRollsText : FSpec := mkF c_w_FnExactRollsText.env.pre c_w_FnExactRollsText.ins c_w_FnExactRollsText.out c_w_FnExactRollsText.inj F_w_FnExactRollsText
theorem h_w_FnExactRollsText : Cert Tryd.prog 3 S_w_FnExactRollsText := FnCx.certF (c := c_w_FnExactRollsText) F_w_FnExactRollsText (tyOk _ _ _) (spOk ⟨h_w_toIntS, fun _ _ h => h, ⟨h_s_RollsText, fun _ _ h => h, ⟨h_i_RollsText, fun _ _ h => h, ⟨h_w_eqIntS, fun _ _ h => h, trivial⟩⟩⟩⟩) (fun _ _ _ _ _ hs => noDr_ok) Tryd.func3 rfl rfl Tryd.ntmps3 (by kernel_rfl) rfl rfl (fun _ => rfl) trivial (fun x => .inl ⟨c_w_FnExactRollsText.start () x, fun _ => rfl⟩) (fun x t hb ht => by
  obtain ⟨aRolls0, _⟩ := x
  exact (w_FnExactRollsText_e aRolls0).trans ht)
end Go.Proofs.YtlffgllmjjkfdaaDoor.V
