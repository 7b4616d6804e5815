/- Functions of the program, as plain functions. No condition. -/
import Derived.Test.YtddiigejhjfhdaaGreatDoorM2
set_option linter.unusedVariables false
set_option linter.unusedSimpArgs false
set_option maxRecDepth 100000
namespace Go.Proofs.YtddiigejhjfhdaaGreatDoor.V
open Go Go.Ev Go.Proofs
/-! strings.Split -/
noncomputable def strings_Split (s sep : ByteArray) : Option (List ByteArray) := splitF s sep
noncomputable def F_strings_Split : Ins [.ro kstring, .ro kstring] → Option (List ByteArray) := fun x => strings_Split x.1 x.2.1
noncomputable def S_strings_Split : FSpec := mkF (T := List ByteArray) textPre [.ro kstring, .ro kstring] [(kSstring, true)] (fun t => ((t, ()), ((), (), ()))) F_strings_Split
theorem h_strings_Split : Cert Tryz.prog 81 S_strings_Split := split_cert (show Lays.n146 Tryz.prog lsplit_ren from { lsplit with }) (by kernel_rfl) rfl rfl ⟨_, Tryz.func81, rfl, by kernel_rfl⟩ (by simp [textL]) (by kernel_rfl)
/-! strconv.Atoi -/
noncomputable def strconv_Atoi (s : ByteArray) : Option (Int × Bool) := atoiF s
noncomputable def F_strconv_Atoi : Ins [.ro kstring] → Option (Int × Bool) := fun x => strconv_Atoi x.1
noncomputable def S_strconv_Atoi : FSpec := mkF (T := Int × Bool) textPre [.ro kstring] [(.int .i64, true), (.err, true)] (fun t => ((t.1, t.2, ()), ((), ()))) F_strconv_Atoi
theorem h_strconv_Atoi : Cert Tryz.prog 92 S_strconv_Atoi := atoi_cert rfl latoi rfl ⟨_, Tryz.func92, rfl, by kernel_rfl⟩ (by simp [textL]) (by kernel_rfl) (by simp [textL]) (by kernel_rfl)
/-! strconv.Itoa -/
noncomputable def strconv_Itoa (n : Int) : Option ByteArray := itoaF n
noncomputable def F_strconv_Itoa : Ins [.ro kint] → Option ByteArray := fun x => strconv_Itoa x.1
noncomputable def S_strconv_Itoa : FSpec := mkF (T := ByteArray) textPre [.ro kint] [(.str, true)] (fun t => ((t, ()), ((), ()))) F_strconv_Itoa
theorem h_strconv_Itoa : Cert Tryz.prog 84 S_strconv_Itoa := itoa_cert litoa rfl ⟨_, Tryz.func84, rfl, by kernel_rfl⟩ (by simp [textL])
/-! impl.num -/
noncomputable def c_i_num : FnCx := { env := env 27 [(92, S_strconv_Atoi), (84, S_strconv_Itoa)] [], body := bodyOf Tryz.f82, res := [.tmp 2], ins := [.ro kstring], out := [(kint, true)], T := Int, fin := fun r => r.1.1, inj := fun t => ((t, ()), ((), ())), pts := [], fuel := 400, dr := noDr }
noncomputable def i_num (s0 : ByteArray) : Option Int :=
  Option.bind (strconv_Atoi s0) fun r =>
    bif !Prod.snd r then some (-1)
    else
      bif decide (Prod.fst r < 0) then some (-1)
      else
        bif decide (Prod.fst r > 999999) then some (-1)
        else Option.bind (strconv_Itoa (Prod.fst r)) fun r_1 => bif !ByteArray.toList r_1 == ByteArray.toList s0 then some (-1) else some (Prod.fst r)
theorem i_num_e (s0 : ByteArray) : c_i_num.start c_i_num.L (s0, ()) = i_num s0 := by kernel_rfl
noncomputable def F_i_num : Ins c_i_num.ins → Option Int := fun x => i_num x.1
noncomputable def S_i_num : FSpec := mkF c_i_num.env.pre c_i_num.ins c_i_num.out c_i_num.inj F_i_num
theorem h_i_num : Cert Tryz.prog 82 S_i_num := FnCx.certF (c := c_i_num) F_i_num (tyOk _ _ _) (spOk ⟨h_strconv_Atoi, fun _ _ h => h, ⟨h_strconv_Itoa, fun _ _ h => h, trivial⟩⟩) (fun _ _ _ _ _ hs => noDr_ok) Tryz.func82 rfl rfl Tryz.ntmps82 (by kernel_rfl) rfl rfl (fun _ => rfl) trivial (fun x => .inl ⟨c_i_num.start () x, fun _ => rfl⟩) (fun x t hb ht => by
  obtain ⟨s0, _⟩ := x
  exact (i_num_e s0).trans ht)
/-! impl.nums -/
noncomputable def c_i_nums : FnCx := { env := env 29 [(81, S_strings_Split), (82, S_i_num)] [], body := bodyOf Tryz.f62, res := [.tmp 4, .tmp 5], ins := [.ro kstring, .ro kstring], out := [(kSint, true), (kbool, true)], T := List Int × Bool, fin := fun r => (r.1.1, r.1.2.1), inj := fun t => ((t.1, t.2, ()), ((), (), ())), pts := [([.inLoop [1, 1, 0, 1, 0, 0], .inBlock 0, .code [1, 1, 1]], Shape.mk [Bs.row kint 3 true, Bs.row kstring 9 true] [(6, Ss.one (Cs.sl 0)), (13, Ss.one (Cs.sl 1)), (14, Ss.one (Cs.sc kint)), (15, Ss.one (Cs.sc kint))] [Ss.one (Cs.any), Ss.one (Cs.any)])], fuel := 400, dr := noDr }
noncomputable def i_nums_t1 (g1 : List (Int) → List (ByteArray) → Int → Int → Option (List Int × Bool)) (r0 : List (Int)) (r1 : List (ByteArray)) (s14 : Int) (s15 : Int) : Option (List Int × Bool) :=
  bif decide (s15 < s14) then
    bif decide (0 ≤ s15) then
      bif decide (s15 < (↑(List.length r1) : Int)) then
        Option.bind (i_num (rdk kstring r1 s15)) fun r =>
          bif decide (r < 0) then some ([], false)
          else bif Nat.ble (List.length r0 + 1) 4294967296 then g1 (r0 ++ [r]) r1 s14 (IntKind.wrap IntKind.i64 (s15 + 1)) else none
      else none
    else none
  else some (r0, true)
noncomputable def i_nums_t0 (g1 : List (Int) → List (ByteArray) → Int → Int → Option (List Int × Bool)) (s0 : ByteArray) (between1 : ByteArray) : Option (List Int × Bool) :=
  Option.bind (strings_Split s0 between1) fun r => g1 [] r (↑(List.length r) : Int) 0
theorem i_nums_ts : Tails c_i_nums.pts c_i_nums.round :=
  ⟨fun s => by
    obtain ⟨⟨r0, r1, _⟩, ⟨_, _, s14, s15, _⟩, ⟨_, _, _⟩⟩ := s
    refine Tail.eq (Y := fun g => i_nums_t1 (fun r0 r1 s14 s15 => g.1 ((r0, r1, ()), ((), (), s14, s15, ()), ((), (), ()))) r0 r1 s14 s15) ?_ (fun g => by kernel_rfl)
    simp only [i_nums_t1]; repeat (first | exact Tail.const _ | exact Tail.here _ | exact Tail.there (Tail.here _) | exact Tail.there (Tail.there (Tail.here _)) | exact Tail.there (Tail.there (Tail.there (Tail.here _))) | exact Tail.there (Tail.there (Tail.there (Tail.there (Tail.here _)))) | exact Tail.there (Tail.there (Tail.there (Tail.there (Tail.there (Tail.here _))))) | apply Tail.cond | (apply Tail.bind; intro _)), trivial⟩
theorem i_nums_hs : ∀ x, Tail c_i_nums.pts (fun g => c_i_nums.start g x) := fun x => by
    obtain ⟨s0, between1, _⟩ := x
    refine Tail.eq (Y := fun g => i_nums_t0 (fun r0 r1 s14 s15 => g.1 ((r0, r1, ()), ((), (), s14, s15, ()), ((), (), ()))) s0 between1) ?_ (fun g => by kernel_rfl)
    simp only [i_nums_t0]; repeat (first | exact Tail.const _ | exact Tail.here _ | exact Tail.there (Tail.here _) | exact Tail.there (Tail.there (Tail.here _)) | exact Tail.there (Tail.there (Tail.there (Tail.here _))) | exact Tail.there (Tail.there (Tail.there (Tail.there (Tail.here _)))) | exact Tail.there (Tail.there (Tail.there (Tail.there (Tail.there (Tail.here _))))) | apply Tail.cond | (apply Tail.bind; intro _))
noncomputable def i_nums_L1 (r0 : List (Int)) (r1 : List (ByteArray)) (s14 : Int) (s15 : Int) : Option (List Int × Bool) := c_i_nums.L.1 ((r0, r1, ()), ((), (), s14, s15, ()), ((), (), ()))
theorem i_nums_u1 (r0 : List (Int)) (r1 : List (ByteArray)) (s14 : Int) (s15 : Int) : i_nums_L1 r0 r1 s14 s15 = i_nums_t1 i_nums_L1 r0 r1 s14 s15 :=
  (congrArg (fun g => g.1 ((r0, r1, ()), ((), (), s14, s15, ()), ((), (), ()))) (FnCx.L_eq i_nums_ts)).trans (by kernel_rfl)
noncomputable def i_nums (s0 : ByteArray) (between1 : ByteArray) : Option (List Int × Bool) := i_nums_t0 i_nums_L1 s0 between1
theorem i_nums_e (s0 : ByteArray) (between1 : ByteArray) : c_i_nums.start c_i_nums.L (s0, between1, ()) = i_nums s0 between1 := by kernel_rfl
noncomputable def F_i_nums : Ins c_i_nums.ins → Option (List Int × Bool) := fun x => i_nums x.1 x.2.1
noncomputable def S_i_nums : FSpec := mkF c_i_nums.env.pre c_i_nums.ins c_i_nums.out c_i_nums.inj F_i_nums
theorem h_i_nums : Cert Tryz.prog 62 S_i_nums := FnCx.certF (c := c_i_nums) F_i_nums (tyOk _ _ _) (spOk ⟨h_strings_Split, fun _ _ h => h, ⟨h_i_num, fun _ _ h => h, trivial⟩⟩) (fun _ _ _ _ _ hs => noDr_ok) Tryz.func62 rfl rfl Tryz.ntmps62 (by kernel_rfl) rfl rfl (fun _ => rfl) i_nums_ts i_nums_hs (fun x t hb ht => by
  obtain ⟨s0, between1, _⟩ := x
  exact (i_nums_e s0 between1).trans ht)
/-! impl.ParseRolls -/
noncomputable def c_i_ParseRolls : FnCx := { env := env 19 [(62, S_i_nums), (16, S_i_AreRolls)] [], body := bodyOf Tryz.f29, res := [.tmp 2, .tmp 3], ins := [.ro kstring], out := [(kSint, true), (kbool, true)], T := List Int × Bool, fin := fun r => (r.1.1, r.1.2.1), inj := fun t => ((t.1, t.2, ()), ((), ())), pts := [], fuel := 400, dr := noDr }
noncomputable def i_ParseRolls (s0 : ByteArray) : Option (List Int × Bool) :=
  Option.bind (i_nums s0 { data := #[43] }) fun r =>
    bif !Prod.snd r then some ([], false) else bif !i_AreRolls (Prod.fst r) then some ([], false) else some (Prod.fst r, true)
theorem i_ParseRolls_e (s0 : ByteArray) : c_i_ParseRolls.start c_i_ParseRolls.L (s0, ()) = i_ParseRolls s0 := by kernel_rfl
noncomputable def F_i_ParseRolls : Ins c_i_ParseRolls.ins → Option (List Int × Bool) := fun x => i_ParseRolls x.1
noncomputable def S_i_ParseRolls : FSpec := mkF c_i_ParseRolls.env.pre c_i_ParseRolls.ins c_i_ParseRolls.out c_i_ParseRolls.inj F_i_ParseRolls
theorem h_i_ParseRolls : Cert Tryz.prog 29 S_i_ParseRolls := FnCx.certF (c := c_i_ParseRolls) F_i_ParseRolls (tyOk _ _ _) (spOk ⟨h_i_nums, fun _ _ h => h, ⟨h_i_AreRolls, fun _ _ h => h, trivial⟩⟩) (fun _ _ _ _ _ hs => noDr_ok) Tryz.func29 rfl rfl Tryz.ntmps29 (by kernel_rfl) rfl rfl (fun _ => rfl) trivial (fun x => .inl ⟨c_i_ParseRolls.start () x, fun _ => rfl⟩) (fun x t hb ht => by
  obtain ⟨s0, _⟩ := x
  exact (i_ParseRolls_e s0).trans ht)
/-! spec.l1Split -/
noncomputable def c_s_l1Split : FnCx := { env := env 34 [] [], body := bodyOf Tryz.f63, res := [.tmp 4], ins := [.ro kstring, .ro kuint8], out := [(kSstring, true)], T := List ByteArray, fin := fun r => r.1.1, inj := fun t => ((t, ()), ((), (), ())), pts := [([.inLoop [1, 1, 1, 0, 1, 0, 0], .inBlock 0, .code [1, 1, 1, 1]], Shape.mk [Bs.row kstring 9 true] [(0, Ss.one (Cs.sc kstring)), (1, Ss.one (Cs.sc kuint8)), (5, Ss.one (Cs.sl 0)), (6, Ss.one (Cs.sc kint)), (7, Ss.one (Cs.sc kint))] [Ss.one (Cs.any), Ss.one (Cs.any)])], fuel := 400, dr := noDr }
noncomputable def s_l1Split_t1 (g1 : List (ByteArray) → ByteArray → Int → Int → Int → Option (List ByteArray)) (r0 : List (ByteArray)) (s0 : ByteArray) (b1 : Int) (from6 : Int) (i7 : Int) : Option (List ByteArray) :=
  bif decide (i7 < (↑(ByteArray.size s0) : Int)) then
    bif decide (0 ≤ i7) then
      bif decide (i7 < (↑(ByteArray.size s0) : Int)) then
        bif bt s0 i7 == b1 then
          bif decide (0 ≤ i7) then
            bif decide (i7 ≤ (↑(ByteArray.size s0) : Int)) then
              bif decide (0 ≤ from6) then
                bif decide (from6 ≤ i7) then
                  bif Nat.ble (List.length r0 + 1) 4294967296 then
                    g1 (r0 ++ [ByteArray.extract s0 (Int.toNat from6) (Int.toNat i7)]) s0 b1 (IntKind.wrap IntKind.i64 (i7 + 1))
                      (IntKind.wrap IntKind.i64 (i7 + 1))
                  else none
                else none
              else none
            else none
          else none
        else g1 r0 s0 b1 from6 (IntKind.wrap IntKind.i64 (i7 + 1))
      else none
    else none
  else
    bif decide (0 ≤ from6) then
      bif decide (from6 ≤ (↑(ByteArray.size s0) : Int)) then
        bif Nat.ble (List.length r0 + 1) 4294967296 then some (r0 ++ [ByteArray.extract s0 (Int.toNat from6) (Int.toNat (↑(ByteArray.size s0) : Int))]) else none
      else none
    else none
noncomputable def s_l1Split_t0 (g1 : List (ByteArray) → ByteArray → Int → Int → Int → Option (List ByteArray)) (s0 : ByteArray) (b1 : Int) : Option (List ByteArray) :=
  g1 [] s0 b1 0 0
theorem s_l1Split_ts : Tails c_s_l1Split.pts c_s_l1Split.round :=
  ⟨fun s => by
    obtain ⟨⟨r0, _⟩, ⟨s0, b1, _, from6, i7, _⟩, ⟨_, _, _⟩⟩ := s
    refine Tail.eq (Y := fun g => s_l1Split_t1 (fun r0 s0 b1 from6 i7 => g.1 ((r0, ()), (s0, b1, (), from6, i7, ()), ((), (), ()))) r0 s0 b1 from6 i7) ?_ (fun g => by kernel_rfl)
    simp only [s_l1Split_t1]; repeat (first | apply Tail.cond | (apply Tail.bind; intro _) | exact Tail.here _ | exact Tail.there (Tail.here _) | exact Tail.there (Tail.there (Tail.here _)) | exact Tail.there (Tail.there (Tail.there (Tail.here _))) | exact Tail.there (Tail.there (Tail.there (Tail.there (Tail.here _)))) | exact Tail.there (Tail.there (Tail.there (Tail.there (Tail.there (Tail.here _))))) | exact Tail.const _), trivial⟩
theorem s_l1Split_hs : ∀ x, Tail c_s_l1Split.pts (fun g => c_s_l1Split.start g x) := fun x => by
    obtain ⟨s0, b1, _⟩ := x
    refine Tail.eq (Y := fun g => s_l1Split_t0 (fun r0 s0 b1 from6 i7 => g.1 ((r0, ()), (s0, b1, (), from6, i7, ()), ((), (), ()))) s0 b1) ?_ (fun g => by kernel_rfl)
    simp only [s_l1Split_t0]; repeat (first | apply Tail.cond | (apply Tail.bind; intro _) | exact Tail.here _ | exact Tail.there (Tail.here _) | exact Tail.there (Tail.there (Tail.here _)) | exact Tail.there (Tail.there (Tail.there (Tail.here _))) | exact Tail.there (Tail.there (Tail.there (Tail.there (Tail.here _)))) | exact Tail.there (Tail.there (Tail.there (Tail.there (Tail.there (Tail.here _))))) | exact Tail.const _)
noncomputable def s_l1Split_L1 (r0 : List (ByteArray)) (s0 : ByteArray) (b1 : Int) (from6 : Int) (i7 : Int) : Option (List ByteArray) := c_s_l1Split.L.1 ((r0, ()), (s0, b1, (), from6, i7, ()), ((), (), ()))
theorem s_l1Split_u1 (r0 : List (ByteArray)) (s0 : ByteArray) (b1 : Int) (from6 : Int) (i7 : Int) : s_l1Split_L1 r0 s0 b1 from6 i7 = s_l1Split_t1 s_l1Split_L1 r0 s0 b1 from6 i7 :=
  (congrArg (fun g => g.1 ((r0, ()), (s0, b1, (), from6, i7, ()), ((), (), ()))) (FnCx.L_eq s_l1Split_ts)).trans (by kernel_rfl)
noncomputable def s_l1Split (s0 : ByteArray) (b1 : Int) : Option (List ByteArray) := s_l1Split_t0 s_l1Split_L1 s0 b1
theorem s_l1Split_e (s0 : ByteArray) (b1 : Int) : c_s_l1Split.start c_s_l1Split.L (s0, b1, ()) = s_l1Split s0 b1 := by kernel_rfl
noncomputable def F_s_l1Split : Ins c_s_l1Split.ins → Option (List ByteArray) := fun x => s_l1Split x.1 x.2.1
noncomputable def S_s_l1Split : FSpec := mkF c_s_l1Split.env.pre c_s_l1Split.ins c_s_l1Split.out c_s_l1Split.inj F_s_l1Split
theorem h_s_l1Split : Cert Tryz.prog 63 S_s_l1Split := FnCx.certF (c := c_s_l1Split) F_s_l1Split (tyOk _ _ _) (spOk trivial) (fun _ _ _ _ _ hs => noDr_ok) Tryz.func63 rfl rfl Tryz.ntmps63 (by kernel_rfl) rfl rfl (fun _ => rfl) s_l1Split_ts s_l1Split_hs (fun x t hb ht => by
  obtain ⟨s0, b1, _⟩ := x
  exact (s_l1Split_e s0 b1).trans ht)
/-! spec.l1Read -/
noncomputable def c_s_l1Read : FnCx := { env := env 44 [(60, S_s_l1In)] [], body := bodyOf Tryz.f64, res := [.tmp 2], ins := [.ro kstring], out := [(kint, true)], T := Int, fin := fun r => r.1.1, inj := fun t => ((t, ()), ((), ())), pts := [([.inLoop [1, 1, 1, 0, 1, 0, 0], .inBlock 0, .code [1, 1, 1, 1]], Shape.mk [] [(0, Ss.one (Cs.sc kstring)), (3, Ss.one (Cs.sc kint)), (4, Ss.one (Cs.sc kint))] [Ss.one (Cs.any)])], fuel := 400, dr := noDr }
noncomputable def s_l1Read_t1 (g1 : ByteArray → Int → Int → Option (Int)) (s0 : ByteArray) (n3 : Int) (i4 : Int) : Option Int :=
  bif decide (i4 < (↑(ByteArray.size s0) : Int)) then
    bif decide (0 ≤ i4) then
      bif decide (i4 < (↑(ByteArray.size s0) : Int)) then
        bif decide (bt s0 i4 < 48) then some (-1)
        else
          bif decide (0 ≤ i4) then
            bif decide (i4 < (↑(ByteArray.size s0) : Int)) then
              bif decide (bt s0 i4 > 57) then some (-1)
              else
                bif decide (0 ≤ i4) then
                  bif decide (i4 < (↑(ByteArray.size s0) : Int)) then
                    g1 s0 (IntKind.wrap IntKind.i64 (IntKind.wrap IntKind.i64 (10 * n3) + IntKind.wrap IntKind.i64 (IntKind.wrap IntKind.u8 (bt s0 i4 - 48))))
                      (IntKind.wrap IntKind.i64 (i4 + 1))
                  else none
                else none
            else none
          else none
      else none
    else none
  else some n3
noncomputable def s_l1Read_t0 (g1 : ByteArray → Int → Int → Option (Int)) (s0 : ByteArray) : Option Int :=
  bif !s_l1In (↑(ByteArray.size s0) : Int) 1 6 then some (-1)
  else
    bif decide (0 < (↑(ByteArray.size s0) : Int)) then
      bif bt s0 0 == 48 then bif decide ((↑(ByteArray.size s0) : Int) > 1) then some (-1) else g1 s0 0 0 else g1 s0 0 0
    else none
theorem s_l1Read_ts : Tails c_s_l1Read.pts c_s_l1Read.round :=
  ⟨fun s => by
    obtain ⟨_, ⟨s0, n3, i4, _⟩, ⟨_, _⟩⟩ := s
    refine Tail.eq (Y := fun g => s_l1Read_t1 (fun s0 n3 i4 => g.1 ((), (s0, n3, i4, ()), ((), ()))) s0 n3 i4) ?_ (fun g => by kernel_rfl)
    simp only [s_l1Read_t1]; repeat (first | apply Tail.cond | (apply Tail.bind; intro _) | exact Tail.here _ | exact Tail.there (Tail.here _) | exact Tail.there (Tail.there (Tail.here _)) | exact Tail.there (Tail.there (Tail.there (Tail.here _))) | exact Tail.there (Tail.there (Tail.there (Tail.there (Tail.here _)))) | exact Tail.there (Tail.there (Tail.there (Tail.there (Tail.there (Tail.here _))))) | exact Tail.const _), trivial⟩
theorem s_l1Read_hs : ∀ x, Tail c_s_l1Read.pts (fun g => c_s_l1Read.start g x) := fun x => by
    obtain ⟨s0, _⟩ := x
    refine Tail.eq (Y := fun g => s_l1Read_t0 (fun s0 n3 i4 => g.1 ((), (s0, n3, i4, ()), ((), ()))) s0) ?_ (fun g => by kernel_rfl)
    simp only [s_l1Read_t0]; repeat (first | apply Tail.cond | (apply Tail.bind; intro _) | exact Tail.here _ | exact Tail.there (Tail.here _) | exact Tail.there (Tail.there (Tail.here _)) | exact Tail.there (Tail.there (Tail.there (Tail.here _))) | exact Tail.there (Tail.there (Tail.there (Tail.there (Tail.here _)))) | exact Tail.there (Tail.there (Tail.there (Tail.there (Tail.there (Tail.here _))))) | exact Tail.const _)
noncomputable def s_l1Read_L1 (s0 : ByteArray) (n3 : Int) (i4 : Int) : Option Int := c_s_l1Read.L.1 ((), (s0, n3, i4, ()), ((), ()))
theorem s_l1Read_u1 (s0 : ByteArray) (n3 : Int) (i4 : Int) : s_l1Read_L1 s0 n3 i4 = s_l1Read_t1 s_l1Read_L1 s0 n3 i4 :=
  (congrArg (fun g => g.1 ((), (s0, n3, i4, ()), ((), ()))) (FnCx.L_eq s_l1Read_ts)).trans (by kernel_rfl)
noncomputable def s_l1Read (s0 : ByteArray) : Option Int := s_l1Read_t0 s_l1Read_L1 s0
theorem s_l1Read_e (s0 : ByteArray) : c_s_l1Read.start c_s_l1Read.L (s0, ()) = s_l1Read s0 := by kernel_rfl
noncomputable def F_s_l1Read : Ins c_s_l1Read.ins → Option Int := fun x => s_l1Read x.1
noncomputable def S_s_l1Read : FSpec := mkF c_s_l1Read.env.pre c_s_l1Read.ins c_s_l1Read.out c_s_l1Read.inj F_s_l1Read
theorem h_s_l1Read : Cert Tryz.prog 64 S_s_l1Read := FnCx.certF (c := c_s_l1Read) F_s_l1Read (tyOk _ _ _) (spOk ⟨h_s_l1In, fun _ _ h => h, trivial⟩) (fun _ _ _ _ _ hs => noDr_ok) Tryz.func64 rfl rfl Tryz.ntmps64 (by kernel_rfl) rfl rfl (fun _ => rfl) s_l1Read_ts s_l1Read_hs (fun x t hb ht => by
  obtain ⟨s0, _⟩ := x
  exact (s_l1Read_e s0).trans ht)
/-! spec.l1Num -/
noncomputable def SR_s_l1Num (RR : Int → Option (ByteArray)) : FSpec := mkF (T := ByteArray) textPre [.ro kint] [(kstring, true)] (fun t => ((t, ()), ((), ()))) (fun x => RR x.1)
noncomputable def c_s_l1Num (RR : Int → Option (ByteArray)) : FnCx := { env := env 20 [(83, SR_s_l1Num RR)] [], body := bodyOf Tryz.f83, res := [.tmp 2], ins := [.ro kint], out := [(kstring, true)], T := ByteArray, fin := fun r => r.1.1, inj := fun t => ((t, ()), ((), ())), pts := [], fuel := 400, dr := evDr (env 20 [(83, SR_s_l1Num RR)] []) }
noncomputable def s_l1Num (RR : Int → Option (ByteArray)) (n0 : Int) : Option ByteArray :=
  bif decide (n0 < 10) then
    some (List.foldl (fun r n => ByteArray.push r (UInt8.ofNat (Int.toNat n))) ByteArray.empty [IntKind.wrap IntKind.u8 (IntKind.wrap IntKind.i64 (48 + n0))])
  else
    Option.bind (RR (IntKind.wrap IntKind.i64 (Int.tdiv n0 10))) fun r =>
      bif
          Nat.ble
            (ByteArray.size r +
              ByteArray.size
                (List.foldl (fun r n => ByteArray.push r (UInt8.ofNat (Int.toNat n))) ByteArray.empty
                  [IntKind.wrap IntKind.u8 (IntKind.wrap IntKind.i64 (48 + Int.tmod n0 10))]))
            9223372036854775807 then
        some
          (r ++
            List.foldl (fun r n => ByteArray.push r (UInt8.ofNat (Int.toNat n))) ByteArray.empty
              [IntKind.wrap IntKind.u8 (IntKind.wrap IntKind.i64 (48 + Int.tmod n0 10))])
      else none
theorem s_l1Num_e (RR : Int → Option (ByteArray)) (n0 : Int) : (c_s_l1Num RR).start (c_s_l1Num RR).L (n0, ()) = (s_l1Num RR) n0 := by kernel_rfl
noncomputable def s_l1Num_it : Nat → Int → Option (ByteArray) := fun n => Nat.rec (fun _ => none) (fun _ RR => s_l1Num RR) n
theorem s_l1Num_is (n : Nat) (n0 : Int) : s_l1Num_it (n + 1) n0 = s_l1Num (s_l1Num_it n) n0 := rfl
theorem hh_s_l1Num : ∀ n, Cert Tryz.prog 83 (SR_s_l1Num (s_l1Num_it n))
  | 0 => cert_none Tryz.func83 rfl (by kernel_rfl) rfl rfl
  | n + 1 => FnCx.certF (c := c_s_l1Num (s_l1Num_it n)) (fun x => s_l1Num_it (n + 1) x.1) (tyOk _ _ _) (spOk ⟨hh_s_l1Num n, fun _ _ h => h, trivial⟩) (fun _ _ _ _ _ hs => evDr_ok (tyOk _ _ _) hs follows) Tryz.func83 rfl rfl Tryz.ntmps83 (by kernel_rfl) rfl rfl (fun _ => rfl) trivial (fun x => .inl ⟨(c_s_l1Num (s_l1Num_it n)).start () x, fun _ => rfl⟩) (fun x t hb ht => by
    obtain ⟨n0, _⟩ := x
    exact (s_l1Num_e (s_l1Num_it n) n0).trans ht)
-- NICE rec
theorem wrapU8 {n : Int} (h1 : 0 ≤ n) (h2 : n ≤ 255) : IntKind.wrap .u8 n = n := by
  unfold IntKind.wrap
  simp [IntKind.signed, IntKind.bits]
  omega
theorem bytes_app (a b : List UInt8) : (⟨a.toArray⟩ : ByteArray) ++ ⟨b.toArray⟩ = ⟨(a ++ b).toArray⟩ := ByteArray.ext (by rw [ByteArray.data_append]; simp)
theorem dec_len : ∀ u : Nat, (Lib.decDigits u).length ≤ u + 1 := by
  intro u
  induction u using Nat.strongRecOn with
  | ind u ih =>
    rw [Lib.decDigits]
    by_cases h : u < 10
    · rw [dif_pos h]; simp
    · rw [dif_neg h]
      have := ih (u / 10) (by omega)
      rw [List.length_append, List.length_singleton]; omega
theorem itoa_nat (n : Nat) : Lib.itoa (n : Int) = Lib.decDigits n := by
  unfold Lib.itoa
  rw [if_neg (by omega), Int.toNat_natCast]
theorem digit_eq {m : Nat} (h : m < 10) : List.foldl (fun r n => ByteArray.push r (UInt8.ofNat (Int.toNat n))) ByteArray.empty [IntKind.wrap .u8 (IntKind.wrap .i64 (48 + (m : Int)))] = ⟨([UInt8.ofNat (48 + m)] : List UInt8).toArray⟩ := by
  rw [wrapI (n := 48 + (m : Int)) (by omega) (by omega), wrapU8 (by omega) (by omega), show (48 + (m : Int)) = ((48 + m : Nat) : Int) by omega]
  simp only [List.foldl_cons, List.foldl_nil, Int.toNat_natCast]
  rfl
theorem num_it : ∀ (k n : Nat), n < k → n ≤ 4000000000000000000 → s_l1Num_it k (n : Int) = some ⟨(Lib.decDigits n).toArray⟩
  | 0, n, h, _ => by omega
  | k + 1, n, h, hn => by
    rw [s_l1Num_is, s_l1Num]
    by_cases h10 : n < 10
    · rw [decide_eq_true (show (n : Int) < 10 by omega), cond_true, digit_eq h10, Lib.decDigits, dif_pos h10]
    · have hm : Int.tmod (n : Int) 10 = ((n % 10 : Nat) : Int) := by rw [Int.tmod_eq_emod_of_nonneg (by omega)]; rfl
      have hd : Int.tdiv (n : Int) 10 = ((n / 10 : Nat) : Int) := by rw [Int.tdiv_eq_ediv_of_nonneg (by omega)]; rfl
      have ih := num_it k (n / 10) (by omega) (by omega)
      have hl := dec_len (n / 10)
      rw [decide_eq_false (show ¬ (n : Int) < 10 by omega), cond_false, hd, hm, wrapI (n := ((n / 10 : Nat) : Int)) (by omega) (by omega), ih, Option.bind_some, digit_eq (Nat.mod_lt n (by omega)), ble_dec, decide_eq_true, cond_true, bytes_app, Lib.decDigits.eq_def n, dif_neg h10]
      show (Lib.decDigits (n / 10)).toArray.size + 1 ≤ _
      simp; omega
noncomputable def s_l1Num_n (n : Int) : Option ByteArray := bif decide (0 ≤ n) && decide (n ≤ 4000000000000000000) then some ⟨(Lib.itoa n).toArray⟩ else none
theorem s_l1Num_ok (n : Int) (t : ByteArray) (h : s_l1Num_n n = some t) : ∃ k, s_l1Num_it k n = some t := by
  unfold s_l1Num_n at h
  cases hc : decide (0 ≤ n) && decide (n ≤ 4000000000000000000)
  · rw [hc] at h; cases h
  · rw [hc, cond_true] at h
    cases h
    rw [Bool.and_eq_true, decide_eq_true_eq, decide_eq_true_eq] at hc
    obtain ⟨m, rfl⟩ := Int.eq_ofNat_of_zero_le hc.1
    exact ⟨m + 1, by rw [num_it (m + 1) m (by omega) (by omega), itoa_nat]⟩
noncomputable def F_s_l1Num : Ins [.ro kint] → Option ByteArray := fun x => s_l1Num_n x.1
noncomputable def S_s_l1Num : FSpec := mkF (T := ByteArray) textPre [.ro kint] [(kstring, true)] (fun t => ((t, ()), ((), ()))) F_s_l1Num
theorem h_s_l1Num : Cert Tryz.prog 83 S_s_l1Num := cert_lim hh_s_l1Num (fun x t hb ht => by
  obtain ⟨n0, _⟩ := x
  exact s_l1Num_ok n0 t ht)
/-! spec.cpText -/
noncomputable def c_s_cpText : FnCx := { env := env 23 [(83, S_s_l1Num)] [], body := bodyOf Tryz.f65, res := [.tmp 2], ins := [.ro kSint], out := [(kstring, true)], T := ByteArray, fin := fun r => r.1.1, inj := fun t => ((t, ()), ((), ())), pts := [([.inLoop [1, 1, 0, 1, 0, 0], .inBlock 0, .code [1, 1, 1]], Shape.mk [Bs.row kint 3 false] [(3, Ss.one (Cs.sc kstring)), (6, Ss.one (Cs.sl 0)), (7, Ss.one (Cs.sc kint)), (8, Ss.one (Cs.sc kint))] [Ss.one (Cs.any)])], fuel := 400, dr := noDr }
noncomputable def s_cpText_t1 (g1 : List (Int) → ByteArray → Int → Int → Option (ByteArray)) (r0 : List (Int)) (out3 : ByteArray) (s7 : Int) (s8 : Int) : Option ByteArray :=
  bif decide (s8 < s7) then
    bif decide (0 ≤ s8) then
      bif decide (s8 < (↑(List.length r0) : Int)) then
        bif decide (s8 > 0) then
          bif Nat.ble (ByteArray.size out3 + ByteArray.size { data := #[43] }) 9223372036854775807 then
            Option.bind (s_l1Num_n (rdk kint r0 s8)) fun r =>
              bif Nat.ble (ByteArray.size (out3 ++ { data := #[43] }) + ByteArray.size r) 9223372036854775807 then
                g1 r0 (out3 ++ { data := #[43] } ++ r) s7 (IntKind.wrap IntKind.i64 (s8 + 1))
              else none
          else none
        else
          Option.bind (s_l1Num_n (rdk kint r0 s8)) fun r =>
            bif Nat.ble (ByteArray.size out3 + ByteArray.size r) 9223372036854775807 then g1 r0 (out3 ++ r) s7 (IntKind.wrap IntKind.i64 (s8 + 1)) else none
      else none
    else none
  else some out3
noncomputable def s_cpText_t0 (g1 : List (Int) → ByteArray → Int → Int → Option (ByteArray)) (rolls0 : List Int) : Option ByteArray :=
  g1 rolls0 { data := #[] } (↑(List.length rolls0) : Int) 0
theorem s_cpText_ts : Tails c_s_cpText.pts c_s_cpText.round :=
  ⟨fun s => by
    obtain ⟨⟨r0, _⟩, ⟨out3, _, s7, s8, _⟩, ⟨_, _⟩⟩ := s
    refine Tail.eq (Y := fun g => s_cpText_t1 (fun r0 out3 s7 s8 => g.1 ((r0, ()), (out3, (), s7, s8, ()), ((), ()))) r0 out3 s7 s8) ?_ (fun g => by kernel_rfl)
    simp only [s_cpText_t1]; repeat (first | apply Tail.cond | (apply Tail.bind; intro _) | exact Tail.here _ | exact Tail.there (Tail.here _) | exact Tail.there (Tail.there (Tail.here _)) | exact Tail.there (Tail.there (Tail.there (Tail.here _))) | exact Tail.there (Tail.there (Tail.there (Tail.there (Tail.here _)))) | exact Tail.there (Tail.there (Tail.there (Tail.there (Tail.there (Tail.here _))))) | exact Tail.const _), trivial⟩
theorem s_cpText_hs : ∀ x, Tail c_s_cpText.pts (fun g => c_s_cpText.start g x) := fun x => by
    obtain ⟨rolls0, _⟩ := x
    refine Tail.eq (Y := fun g => s_cpText_t0 (fun r0 out3 s7 s8 => g.1 ((r0, ()), (out3, (), s7, s8, ()), ((), ()))) rolls0) ?_ (fun g => by kernel_rfl)
    simp only [s_cpText_t0]; repeat (first | apply Tail.cond | (apply Tail.bind; intro _) | exact Tail.here _ | exact Tail.there (Tail.here _) | exact Tail.there (Tail.there (Tail.here _)) | exact Tail.there (Tail.there (Tail.there (Tail.here _))) | exact Tail.there (Tail.there (Tail.there (Tail.there (Tail.here _)))) | exact Tail.there (Tail.there (Tail.there (Tail.there (Tail.there (Tail.here _))))) | exact Tail.const _)
noncomputable def s_cpText_L1 (r0 : List (Int)) (out3 : ByteArray) (s7 : Int) (s8 : Int) : Option ByteArray := c_s_cpText.L.1 ((r0, ()), (out3, (), s7, s8, ()), ((), ()))
theorem s_cpText_u1 (r0 : List (Int)) (out3 : ByteArray) (s7 : Int) (s8 : Int) : s_cpText_L1 r0 out3 s7 s8 = s_cpText_t1 s_cpText_L1 r0 out3 s7 s8 :=
  (congrArg (fun g => g.1 ((r0, ()), (out3, (), s7, s8, ()), ((), ()))) (FnCx.L_eq s_cpText_ts)).trans (by kernel_rfl)
noncomputable def s_cpText (rolls0 : List Int) : Option ByteArray := s_cpText_t0 s_cpText_L1 rolls0
theorem s_cpText_e (rolls0 : List Int) : c_s_cpText.start c_s_cpText.L (rolls0, ()) = s_cpText rolls0 := by kernel_rfl
noncomputable def F_s_cpText : Ins c_s_cpText.ins → Option ByteArray := fun x => s_cpText x.1
noncomputable def S_s_cpText : FSpec := mkF c_s_cpText.env.pre c_s_cpText.ins c_s_cpText.out c_s_cpText.inj F_s_cpText
theorem h_s_cpText : Cert Tryz.prog 65 S_s_cpText := FnCx.certF (c := c_s_cpText) F_s_cpText (tyOk _ _ _) (spOk ⟨h_s_l1Num, fun _ _ h => h, trivial⟩) (fun _ _ _ _ _ hs => noDr_ok) Tryz.func65 rfl rfl Tryz.ntmps65 (by kernel_rfl) rfl rfl (fun _ => rfl) s_cpText_ts s_cpText_hs (fun x t hb ht => by
  obtain ⟨rolls0, _⟩ := x
  exact (s_cpText_e rolls0).trans ht)
/-! spec.ParseRolls -/
noncomputable def c_s_ParseRolls : FnCx := { env := env 33 [(63, S_s_l1Split), (64, S_s_l1Read), (55, S_s_cpRolls), (65, S_s_cpText)] [], body := bodyOf Tryz.f30, res := [.tmp 2, .tmp 3], ins := [.ro kstring], out := [(kSint, true), (kbool, true)], T := List Int × Bool, fin := fun r => (r.1.1, r.1.2.1), inj := fun t => ((t.1, t.2, ()), ((), ())), pts := [([.inLoop [1, 1, 1, 0, 1, 0, 0], .inBlock 0, .code [1, 1, 1, 1]], Shape.mk [Bs.row kint 3 true, Bs.row kstring 9 true] [(0, Ss.one (Cs.sc kstring)), (4, Ss.one (Cs.sl 0)), (11, Ss.one (Cs.sl 1)), (12, Ss.one (Cs.sc kint)), (13, Ss.one (Cs.sc kint))] [Ss.one (Cs.any)])], fuel := 400, dr := noDr }
noncomputable def s_ParseRolls_t1 (g1 : List (Int) → List (ByteArray) → ByteArray → Int → Int → Option (List Int × Bool)) (r0 : List (Int)) (r1 : List (ByteArray)) (s0 : ByteArray) (s12 : Int) (s13 : Int) : Option (List Int × Bool) :=
  bif decide (s13 < s12) then
    bif decide (0 ≤ s13) then
      bif decide (s13 < (↑(List.length r1) : Int)) then
        Option.bind (s_l1Read (rdk kstring r1 s13)) fun r =>
          bif Nat.ble (List.length r0 + 1) 4294967296 then g1 (r0 ++ [r]) r1 s0 s12 (IntKind.wrap IntKind.i64 (s13 + 1)) else none
      else none
    else none
  else
    bif !s_cpRolls r0 then some ([], false)
    else Option.bind (s_cpText r0) fun r => bif !ByteArray.toList r == ByteArray.toList s0 then some ([], false) else some (r0, true)
noncomputable def s_ParseRolls_t0 (g1 : List (Int) → List (ByteArray) → ByteArray → Int → Int → Option (List Int × Bool)) (s0 : ByteArray) : Option (List Int × Bool) :=
  bif decide ((↑(ByteArray.size s0) : Int) > 40) then some ([], false) else Option.bind (s_l1Split s0 43) fun r => g1 [] r s0 (↑(List.length r) : Int) 0
theorem s_ParseRolls_ts : Tails c_s_ParseRolls.pts c_s_ParseRolls.round :=
  ⟨fun s => by
    obtain ⟨⟨r0, r1, _⟩, ⟨s0, _, _, s12, s13, _⟩, ⟨_, _⟩⟩ := s
    refine Tail.eq (Y := fun g => s_ParseRolls_t1 (fun r0 r1 s0 s12 s13 => g.1 ((r0, r1, ()), (s0, (), (), s12, s13, ()), ((), ()))) r0 r1 s0 s12 s13) ?_ (fun g => by kernel_rfl)
    simp only [s_ParseRolls_t1]; repeat (first | apply Tail.cond | (apply Tail.bind; intro _) | exact Tail.here _ | exact Tail.there (Tail.here _) | exact Tail.there (Tail.there (Tail.here _)) | exact Tail.there (Tail.there (Tail.there (Tail.here _))) | exact Tail.there (Tail.there (Tail.there (Tail.there (Tail.here _)))) | exact Tail.there (Tail.there (Tail.there (Tail.there (Tail.there (Tail.here _))))) | exact Tail.const _), trivial⟩
theorem s_ParseRolls_hs : ∀ x, Tail c_s_ParseRolls.pts (fun g => c_s_ParseRolls.start g x) := fun x => by
    obtain ⟨s0, _⟩ := x
    refine Tail.eq (Y := fun g => s_ParseRolls_t0 (fun r0 r1 s0 s12 s13 => g.1 ((r0, r1, ()), (s0, (), (), s12, s13, ()), ((), ()))) s0) ?_ (fun g => by kernel_rfl)
    simp only [s_ParseRolls_t0]; repeat (first | apply Tail.cond | (apply Tail.bind; intro _) | exact Tail.here _ | exact Tail.there (Tail.here _) | exact Tail.there (Tail.there (Tail.here _)) | exact Tail.there (Tail.there (Tail.there (Tail.here _))) | exact Tail.there (Tail.there (Tail.there (Tail.there (Tail.here _)))) | exact Tail.there (Tail.there (Tail.there (Tail.there (Tail.there (Tail.here _))))) | exact Tail.const _)
noncomputable def s_ParseRolls_L1 (r0 : List (Int)) (r1 : List (ByteArray)) (s0 : ByteArray) (s12 : Int) (s13 : Int) : Option (List Int × Bool) := c_s_ParseRolls.L.1 ((r0, r1, ()), (s0, (), (), s12, s13, ()), ((), ()))
theorem s_ParseRolls_u1 (r0 : List (Int)) (r1 : List (ByteArray)) (s0 : ByteArray) (s12 : Int) (s13 : Int) : s_ParseRolls_L1 r0 r1 s0 s12 s13 = s_ParseRolls_t1 s_ParseRolls_L1 r0 r1 s0 s12 s13 :=
  (congrArg (fun g => g.1 ((r0, r1, ()), (s0, (), (), s12, s13, ()), ((), ()))) (FnCx.L_eq s_ParseRolls_ts)).trans (by kernel_rfl)
noncomputable def s_ParseRolls (s0 : ByteArray) : Option (List Int × Bool) := s_ParseRolls_t0 s_ParseRolls_L1 s0
theorem s_ParseRolls_e (s0 : ByteArray) : c_s_ParseRolls.start c_s_ParseRolls.L (s0, ()) = s_ParseRolls s0 := by kernel_rfl
noncomputable def F_s_ParseRolls : Ins c_s_ParseRolls.ins → Option (List Int × Bool) := fun x => s_ParseRolls x.1
noncomputable def S_s_ParseRolls : FSpec := mkF c_s_ParseRolls.env.pre c_s_ParseRolls.ins c_s_ParseRolls.out c_s_ParseRolls.inj F_s_ParseRolls
theorem h_s_ParseRolls : Cert Tryz.prog 30 S_s_ParseRolls := FnCx.certF (c := c_s_ParseRolls) F_s_ParseRolls (tyOk _ _ _) (spOk ⟨h_s_l1Split, fun _ _ h => h, ⟨h_s_l1Read, fun _ _ h => h, ⟨h_s_cpRolls, fun _ _ h => h, ⟨h_s_cpText, fun _ _ h => h, trivial⟩⟩⟩⟩) (fun _ _ _ _ _ hs => noDr_ok) Tryz.func30 rfl rfl Tryz.ntmps30 (by kernel_rfl) rfl rfl (fun _ => rfl) s_ParseRolls_ts s_ParseRolls_hs (fun x t hb ht => by
  obtain ⟨s0, _⟩ := x
  exact (s_ParseRolls_e s0).trans ht)
/-! strings.Join -/
theorem xjoin : Builder.Extra Tryz.prog ljoin_ren where
  sizeBuilder := by kernel_rfl
  liesBuilder := by kernel_rfl
  t5 := Tryz.underlying5
  a5 := Tryz.isAgg5
  z5 := Tryz.sizeOf5
  v5 := Tryz.zeroValue5
  infoByte := by kernel_rfl
  cellsByte := by kernel_rfl
  sizeByte := by kernel_rfl
  neB5 := by decide
noncomputable def strings_Join (xs : List ByteArray) (s : ByteArray) : Option ByteArray := joinF xs s
noncomputable def F_strings_Join : Ins [.ro kSstring, .ro kstring] → Option ByteArray := fun x => strings_Join x.1 x.2.1
noncomputable def S_strings_Join : FSpec := mkF (T := ByteArray) textPre [.ro kSstring, .ro kstring] [(.str, true)] (fun t => ((t, ()), ((), (), ()))) F_strings_Join
theorem h_strings_Join : Cert Tryz.prog 85 S_strings_Join := join_cert rfl ljoin xjoin rfl ⟨_, Tryz.func85, rfl, by kernel_rfl⟩
/-! impl.joined -/
noncomputable def c_i_joined : FnCx := { env := env 24 [(84, S_strconv_Itoa), (85, S_strings_Join)] [], body := bodyOf Tryz.f66, res := [.tmp 4], ins := [.ro kSint, .ro kstring], out := [(kstring, true)], T := ByteArray, fin := fun r => r.1.1, inj := fun t => ((t, ()), ((), (), ())), pts := [([.inLoop [1, 1, 0, 1, 0, 0], .inBlock 0, .code [1, 1, 1]], Shape.mk [Bs.row kstring 9 true, Bs.row kint 3 false] [(1, Ss.one (Cs.sc kstring)), (5, Ss.one (Cs.sl 0)), (9, Ss.one (Cs.sl 1)), (10, Ss.one (Cs.sc kint)), (11, Ss.one (Cs.sc kint))] [Ss.one (Cs.any), Ss.one (Cs.any)])], fuel := 400, dr := noDr }
noncomputable def i_joined_t1 (g1 : List (ByteArray) → List (Int) → ByteArray → Int → Int → Option (ByteArray)) (r0 : List (ByteArray)) (r1 : List (Int)) (between1 : ByteArray) (s10 : Int) (s11 : Int) : Option ByteArray :=
  bif decide (s11 < s10) then
    bif decide (0 ≤ s11) then
      bif decide (s11 < (↑(List.length r1) : Int)) then
        Option.bind (strconv_Itoa (rdk kint r1 s11)) fun r =>
          bif Nat.ble (List.length r0 + 1) 4294967296 then g1 (r0 ++ [r]) r1 between1 s10 (IntKind.wrap IntKind.i64 (s11 + 1)) else none
      else none
    else none
  else Option.bind (strings_Join r0 between1) fun r => some r
noncomputable def i_joined_t0 (g1 : List (ByteArray) → List (Int) → ByteArray → Int → Int → Option (ByteArray)) (l0 : List Int) (between1 : ByteArray) : Option ByteArray :=
  g1 [] l0 between1 (↑(List.length l0) : Int) 0
theorem i_joined_ts : Tails c_i_joined.pts c_i_joined.round :=
  ⟨fun s => by
    obtain ⟨⟨r0, r1, _⟩, ⟨between1, _, _, s10, s11, _⟩, ⟨_, _, _⟩⟩ := s
    refine Tail.eq (Y := fun g => i_joined_t1 (fun r0 r1 between1 s10 s11 => g.1 ((r0, r1, ()), (between1, (), (), s10, s11, ()), ((), (), ()))) r0 r1 between1 s10 s11) ?_ (fun g => by kernel_rfl)
    simp only [i_joined_t1]; repeat (first | exact Tail.const _ | exact Tail.here _ | exact Tail.there (Tail.here _) | exact Tail.there (Tail.there (Tail.here _)) | exact Tail.there (Tail.there (Tail.there (Tail.here _))) | exact Tail.there (Tail.there (Tail.there (Tail.there (Tail.here _)))) | exact Tail.there (Tail.there (Tail.there (Tail.there (Tail.there (Tail.here _))))) | apply Tail.cond | (apply Tail.bind; intro _)), trivial⟩
theorem i_joined_hs : ∀ x, Tail c_i_joined.pts (fun g => c_i_joined.start g x) := fun x => by
    obtain ⟨l0, between1, _⟩ := x
    refine Tail.eq (Y := fun g => i_joined_t0 (fun r0 r1 between1 s10 s11 => g.1 ((r0, r1, ()), (between1, (), (), s10, s11, ()), ((), (), ()))) l0 between1) ?_ (fun g => by kernel_rfl)
    simp only [i_joined_t0]; repeat (first | exact Tail.const _ | exact Tail.here _ | exact Tail.there (Tail.here _) | exact Tail.there (Tail.there (Tail.here _)) | exact Tail.there (Tail.there (Tail.there (Tail.here _))) | exact Tail.there (Tail.there (Tail.there (Tail.there (Tail.here _)))) | exact Tail.there (Tail.there (Tail.there (Tail.there (Tail.there (Tail.here _))))) | apply Tail.cond | (apply Tail.bind; intro _))
noncomputable def i_joined_L1 (r0 : List (ByteArray)) (r1 : List (Int)) (between1 : ByteArray) (s10 : Int) (s11 : Int) : Option ByteArray := c_i_joined.L.1 ((r0, r1, ()), (between1, (), (), s10, s11, ()), ((), (), ()))
theorem i_joined_u1 (r0 : List (ByteArray)) (r1 : List (Int)) (between1 : ByteArray) (s10 : Int) (s11 : Int) : i_joined_L1 r0 r1 between1 s10 s11 = i_joined_t1 i_joined_L1 r0 r1 between1 s10 s11 :=
  (congrArg (fun g => g.1 ((r0, r1, ()), (between1, (), (), s10, s11, ()), ((), (), ()))) (FnCx.L_eq i_joined_ts)).trans (by kernel_rfl)
noncomputable def i_joined (l0 : List Int) (between1 : ByteArray) : Option ByteArray := i_joined_t0 i_joined_L1 l0 between1
theorem i_joined_e (l0 : List Int) (between1 : ByteArray) : c_i_joined.start c_i_joined.L (l0, between1, ()) = i_joined l0 between1 := by kernel_rfl
noncomputable def F_i_joined : Ins c_i_joined.ins → Option ByteArray := fun x => i_joined x.1 x.2.1
noncomputable def S_i_joined : FSpec := mkF c_i_joined.env.pre c_i_joined.ins c_i_joined.out c_i_joined.inj F_i_joined
theorem h_i_joined : Cert Tryz.prog 66 S_i_joined := FnCx.certF (c := c_i_joined) F_i_joined (tyOk _ _ _) (spOk ⟨h_strconv_Itoa, fun _ _ h => h, ⟨h_strings_Join, fun _ _ h => h, trivial⟩⟩) (fun _ _ _ _ _ hs => noDr_ok) Tryz.func66 rfl rfl Tryz.ntmps66 (by kernel_rfl) rfl rfl (fun _ => rfl) i_joined_ts i_joined_hs (fun x t hb ht => by
  obtain ⟨l0, between1, _⟩ := x
  exact (i_joined_e l0 between1).trans ht)
/-! impl.RollsText -/
noncomputable def c_i_RollsText : FnCx := { env := env 9 [(16, S_i_AreRolls), (66, S_i_joined)] [], body := bodyOf Tryz.f31, res := [.tmp 2, .tmp 3], ins := [.ro kSint], out := [(kstring, true), (kbool, true)], T := ByteArray × Bool, fin := fun r => (r.1.1, r.1.2.1), inj := fun t => ((t.1, t.2, ()), ((), ())), pts := [], fuel := 400, dr := noDr }
noncomputable def i_RollsText (rolls0 : List Int) : Option (ByteArray × Bool) :=
  bif !i_AreRolls rolls0 then some ({ data := #[] }, false) else Option.bind (i_joined rolls0 { data := #[43] }) fun r => some (r, true)
theorem i_RollsText_e (rolls0 : List Int) : c_i_RollsText.start c_i_RollsText.L (rolls0, ()) = i_RollsText rolls0 := by kernel_rfl
noncomputable def F_i_RollsText : Ins c_i_RollsText.ins → Option (ByteArray × Bool) := fun x => i_RollsText x.1
noncomputable def S_i_RollsText : FSpec := mkF c_i_RollsText.env.pre c_i_RollsText.ins c_i_RollsText.out c_i_RollsText.inj F_i_RollsText
theorem h_i_RollsText : Cert Tryz.prog 31 S_i_RollsText := FnCx.certF (c := c_i_RollsText) F_i_RollsText (tyOk _ _ _) (spOk ⟨h_i_AreRolls, fun _ _ h => h, ⟨h_i_joined, fun _ _ h => h, trivial⟩⟩) (fun _ _ _ _ _ hs => noDr_ok) Tryz.func31 rfl rfl Tryz.ntmps31 (by kernel_rfl) rfl rfl (fun _ => rfl) trivial (fun x => .inl ⟨c_i_RollsText.start () x, fun _ => rfl⟩) (fun x t hb ht => by
  obtain ⟨rolls0, _⟩ := x
  exact (i_RollsText_e rolls0).trans ht)
/-! spec.RollsText -/
noncomputable def c_s_RollsText : FnCx := { env := env 9 [(55, S_s_cpRolls), (65, S_s_cpText)] [], body := bodyOf Tryz.f32, res := [.tmp 2, .tmp 3], ins := [.ro kSint], out := [(kstring, true), (kbool, true)], T := ByteArray × Bool, fin := fun r => (r.1.1, r.1.2.1), inj := fun t => ((t.1, t.2, ()), ((), ())), pts := [], fuel := 400, dr := noDr }
noncomputable def s_RollsText (rolls0 : List Int) : Option (ByteArray × Bool) :=
  bif !s_cpRolls rolls0 then some ({ data := #[] }, false) else Option.bind (s_cpText rolls0) fun r => some (r, true)
theorem s_RollsText_e (rolls0 : List Int) : c_s_RollsText.start c_s_RollsText.L (rolls0, ()) = s_RollsText rolls0 := by kernel_rfl
noncomputable def F_s_RollsText : Ins c_s_RollsText.ins → Option (ByteArray × Bool) := fun x => s_RollsText x.1
noncomputable def S_s_RollsText : FSpec := mkF c_s_RollsText.env.pre c_s_RollsText.ins c_s_RollsText.out c_s_RollsText.inj F_s_RollsText
theorem h_s_RollsText : Cert Tryz.prog 32 S_s_RollsText := FnCx.certF (c := c_s_RollsText) F_s_RollsText (tyOk _ _ _) (spOk ⟨h_s_cpRolls, fun _ _ h => h, ⟨h_s_cpText, fun _ _ h => h, trivial⟩⟩) (fun _ _ _ _ _ hs => noDr_ok) Tryz.func32 rfl rfl Tryz.ntmps32 (by kernel_rfl) rfl rfl (fun _ => rfl) trivial (fun x => .inl ⟨c_s_RollsText.start () x, fun _ => rfl⟩) (fun x t hb ht => by
  obtain ⟨rolls0, _⟩ := x
  exact (s_RollsText_e rolls0).trans ht)
end Go.Proofs.YtddiigejhjfhdaaGreatDoor.V
