/- Functions of the program, as plain functions. No condition. -/
import Derived.Test.YthenlapjhlljnaaD2
set_option linter.unusedVariables false
set_option linter.unusedSimpArgs false
set_option maxRecDepth 100000
namespace Go.Proofs.Ythenlapjhlljnaa.V
open Go Go.Ev Go.Proofs
/-! impl.FirstFewest -/
noncomputable def c_i_FirstFewest : FnCx := { env := env 109 [(245, S_i_AreStairs), (252, S_i_Stairs_isBroken)] [], body := bodyOf Try.f139, res := [.tmp 2, .tmp 3], ins := [.ro kStairs], out := [(kSint, true), (kbool, true)], T := List Int × Bool, fin := fun r => (r.1.1, r.1.2.1), inj := fun t => ((t.1, t.2, ()), ((), ())), pts := [([.inLoop [1, 1, 1, 0, 1, 0, 0], .inBlock 0, .code [1, 1, 1, 1]], Shape.mk [Bs.box 96 [Cs.sc kint, Cs.sl 2, Cs.sl 3], Bs.row kint 3 true, Bs.row kint 3 false, Bs.row kint 3 false] [(1, Ss.one (Cs.ptr 0 0)), (4, Ss.one (Cs.sl 1)), (5, Ss.one (Cs.sc kint))] [Ss.one (Cs.any)]), ([.inLoop [1, 1, 1, 0, 1, 0, 0, 1, 0, 0, 1, 1, 0, 0], .inBlock 2, .inBlock 1, .code [1, 1, 1, 0, 1, 0, 0, 1, 1], .inLoop [1, 1, 1, 0, 1, 0, 0], .inBlock 0, .code [1, 1, 1, 1]], Shape.mk [Bs.box 96 [Cs.sc kint, Cs.sl 2, Cs.sl 3], Bs.row kint 3 true, Bs.row kint 3 false, Bs.row kint 3 false] [(1, Ss.one (Cs.ptr 0 0)), (4, Ss.one (Cs.sl 1)), (5, Ss.one (Cs.sc kint)), (30, Ss.one (Cs.sl 2)), (31, Ss.one (Cs.sc kint)), (32, Ss.one (Cs.sc kint))] [Ss.one (Cs.any)]), ([.inLoop [1, 1, 1, 1, 1, 1, 0, 1, 0, 0], .inBlock 4, .code [1, 1, 1, 1, 1, 1, 1]], Shape.mk [Bs.box 96 [Cs.sc kint, Cs.sl 3, Cs.sl 4], Bs.row kint 3 true, Bs.row kint 3 true, Bs.row kint 3 false, Bs.row kint 3 false] [(1, Ss.one (Cs.ptr 0 0)), (4, Ss.one (Cs.sl 1)), (8, Ss.one (Cs.sl 2)), (9, Ss.one (Cs.sc kint))] [Ss.one (Cs.any)]), ([.inLoop [1, 1, 1, 1, 1, 1, 0, 1, 0, 0, 1, 0, 1, 0, 0], .inBlock 6, .inBlock 5, .inLoop [1, 1, 1, 1, 1, 1, 0, 1, 0, 0], .inBlock 4, .code [1, 1, 1, 1, 1, 1, 1]], Shape.mk [Bs.box 96 [Cs.sc kint, Cs.sl 3, Cs.sl 4], Bs.row kint 3 true, Bs.row kint 3 true, Bs.row kint 3 false, Bs.row kint 3 false] [(1, Ss.one (Cs.ptr 0 0)), (4, Ss.one (Cs.sl 1)), (8, Ss.one (Cs.sl 2)), (9, Ss.one (Cs.sc kint)), (74, Ss.one (Cs.sl 3)), (75, Ss.one (Cs.sc kint)), (76, Ss.one (Cs.sc kint))] [Ss.one (Cs.any)])], fuel := 400, dr := evDr (env 109 [(245, S_i_AreStairs), (252, S_i_Stairs_isBroken)] []) }
noncomputable def i_FirstFewest_t1 (g1 : Int → List (Int) → List (Int) → List (Int) → Int → Option (List Int × Bool)) (g2 : Int → List (Int) → List (Int) → List (Int) → Int → Int → Int → Option (List Int × Bool)) (g3 : Int → List (Int) → List (Int) → List (Int) → List (Int) → Int → Option (List Int × Bool)) (g4 : Int → List (Int) → List (Int) → List (Int) → List (Int) → Int → Int → Int → Option (List Int × Bool)) (b0_0 : Int) (r1 : List (Int)) (r2 : List (Int)) (r3 : List (Int)) (k5 : Int) : Option (List Int × Bool) :=
  bif decide (k5 ≥ 0) then
    bif decide (0 ≤ k5) then
      bif decide (k5 < (↑(List.length r1) : Int)) then g2 b0_0 (List.set r1 (Int.toNat k5) 1000) r2 r3 k5 (↑(List.length r2) : Int) 0 else none
    else none
  else
    bif decide (0 < (↑(List.length r1) : Int)) then bif decide (rdk kint r1 0 ≥ 1000) then some ([], false) else g3 b0_0 r1 [] r2 r3 0 else none
noncomputable def i_FirstFewest_t2 (g1 : Int → List (Int) → List (Int) → List (Int) → Int → Option (List Int × Bool)) (g2 : Int → List (Int) → List (Int) → List (Int) → Int → Int → Int → Option (List Int × Bool)) (g3 : Int → List (Int) → List (Int) → List (Int) → List (Int) → Int → Option (List Int × Bool)) (g4 : Int → List (Int) → List (Int) → List (Int) → List (Int) → Int → Int → Int → Option (List Int × Bool)) (b0_0 : Int) (r1 : List (Int)) (r2 : List (Int)) (r3 : List (Int)) (k5 : Int) (s31 : Int) (s32 : Int) : Option (List Int × Bool) :=
  bif decide (s32 < s31) then
    bif decide (0 ≤ s32) then
      bif decide (s32 < (↑(List.length r2) : Int)) then
        bif decide (IntKind.wrap IntKind.i64 (k5 + rdk kint r2 s32) ≤ b0_0) then
          bif !i_Stairs_isBroken b0_0 r2 r3 k5 then
            bif decide (0 ≤ k5) then
              bif decide (k5 < (↑(List.length r1) : Int)) then
                bif decide (0 ≤ IntKind.wrap IntKind.i64 (k5 + rdk kint r2 s32)) then
                  bif decide (IntKind.wrap IntKind.i64 (k5 + rdk kint r2 s32) < (↑(List.length r1) : Int)) then
                    bif decide (0 ≤ k5) then
                      bif decide (k5 < (↑(List.length r1) : Int)) then
                        g2 b0_0
                          (List.set r1 (Int.toNat k5)
                            (bif
                                decide
                                  (IntKind.wrap IntKind.i64 (rdk kint r1 (IntKind.wrap IntKind.i64 (k5 + rdk kint r2 s32)) + 1) <
                                    rdk kint r1 k5) then
                              IntKind.wrap IntKind.i64 (rdk kint r1 (IntKind.wrap IntKind.i64 (k5 + rdk kint r2 s32)) + 1)
                            else rdk kint r1 k5))
                          r2 r3 k5 s31 (IntKind.wrap IntKind.i64 (s32 + 1))
                      else none
                    else none
                  else none
                else none
              else none
            else none
          else g2 b0_0 r1 r2 r3 k5 s31 (IntKind.wrap IntKind.i64 (s32 + 1))
        else g2 b0_0 r1 r2 r3 k5 s31 (IntKind.wrap IntKind.i64 (s32 + 1))
      else none
    else none
  else g1 b0_0 r1 r2 r3 (IntKind.wrap IntKind.i64 (k5 - 1))
noncomputable def i_FirstFewest_t3 (g1 : Int → List (Int) → List (Int) → List (Int) → Int → Option (List Int × Bool)) (g2 : Int → List (Int) → List (Int) → List (Int) → Int → Int → Int → Option (List Int × Bool)) (g3 : Int → List (Int) → List (Int) → List (Int) → List (Int) → Int → Option (List Int × Bool)) (g4 : Int → List (Int) → List (Int) → List (Int) → List (Int) → Int → Int → Int → Option (List Int × Bool)) (b0_0 : Int) (r1 : List (Int)) (r2 : List (Int)) (r3 : List (Int)) (r4 : List (Int)) (at9 : Int) : Option (List Int × Bool) :=
  bif decide (at9 < b0_0) then g4 b0_0 r1 r2 r3 r4 at9 (↑(List.length r3) : Int) 0 else some (r2, true)
noncomputable def i_FirstFewest_t4 (g1 : Int → List (Int) → List (Int) → List (Int) → Int → Option (List Int × Bool)) (g2 : Int → List (Int) → List (Int) → List (Int) → Int → Int → Int → Option (List Int × Bool)) (g3 : Int → List (Int) → List (Int) → List (Int) → List (Int) → Int → Option (List Int × Bool)) (g4 : Int → List (Int) → List (Int) → List (Int) → List (Int) → Int → Int → Int → Option (List Int × Bool)) (b0_0 : Int) (r1 : List (Int)) (r2 : List (Int)) (r3 : List (Int)) (r4 : List (Int)) (at9 : Int) (s75 : Int) (s76 : Int) : Option (List Int × Bool) :=
  bif decide (s76 < s75) then
    bif decide (0 ≤ s76) then
      bif decide (s76 < (↑(List.length r3) : Int)) then
        bif decide (IntKind.wrap IntKind.i64 (at9 + rdk kint r3 s76) ≤ b0_0) then
          bif decide (0 ≤ IntKind.wrap IntKind.i64 (at9 + rdk kint r3 s76)) then
            bif decide (IntKind.wrap IntKind.i64 (at9 + rdk kint r3 s76) < (↑(List.length r1) : Int)) then
              bif decide (0 ≤ at9) then
                bif decide (at9 < (↑(List.length r1) : Int)) then
                  bif
                      IntKind.wrap IntKind.i64 (rdk kint r1 (IntKind.wrap IntKind.i64 (at9 + rdk kint r3 s76)) + 1) ==
                        rdk kint r1 at9 then
                    bif Nat.ble (List.length r2 + 1) 4294967296 then
                      g3 b0_0 r1 (r2 ++ [rdk kint r3 s76]) r3 r4 (IntKind.wrap IntKind.i64 (at9 + rdk kint r3 s76))
                    else none
                  else g4 b0_0 r1 r2 r3 r4 at9 s75 (IntKind.wrap IntKind.i64 (s76 + 1))
                else none
              else none
            else none
          else none
        else g4 b0_0 r1 r2 r3 r4 at9 s75 (IntKind.wrap IntKind.i64 (s76 + 1))
      else none
    else none
  else g3 b0_0 r1 r2 r3 r4 at9
noncomputable def i_FirstFewest_t0 (g1 : Int → List (Int) → List (Int) → List (Int) → Int → Option (List Int × Bool)) (g2 : Int → List (Int) → List (Int) → List (Int) → Int → Int → Int → Option (List Int × Bool)) (g3 : Int → List (Int) → List (Int) → List (Int) → List (Int) → Int → Option (List Int × Bool)) (g4 : Int → List (Int) → List (Int) → List (Int) → List (Int) → Int → Int → Int → Option (List Int × Bool)) (s0_Steps : Int) (s0_Strides : List Int) (s0_Broken : List Int) : Option (List Int × Bool) :=
  bif !i_AreStairs s0_Steps s0_Strides s0_Broken then some ([], false)
  else
    bif IntKind.wrap IntKind.i64 (s0_Steps + 1) == IntKind.wrap IntKind.i64 (s0_Steps + 1) then
      bif decide (0 ≤ IntKind.wrap IntKind.i64 (s0_Steps + 1)) then
        bif decide (IntKind.wrap IntKind.i64 (s0_Steps + 1) ≤ (↑4294967296 : Int)) then
          g1 s0_Steps (List.replicate (Int.toNat (IntKind.wrap IntKind.i64 (s0_Steps + 1))) (Kd.zero kint)) s0_Strides s0_Broken
            (IntKind.wrap IntKind.i64 (s0_Steps - 1))
        else none
      else none
    else none
theorem i_FirstFewest_ts : Tails c_i_FirstFewest.pts c_i_FirstFewest.round :=
  ⟨fun s => by
    obtain ⟨⟨⟨b0_0, _, _, _⟩, r1, r2, r3, _⟩, ⟨_, _, k5, _⟩, ⟨_, _⟩⟩ := s
    refine Tail.eq (Y := fun g => i_FirstFewest_t1 (fun b0_0 r1 r2 r3 k5 => g.1 (((b0_0, (), (), ()), r1, r2, r3, ()), ((), (), k5, ()), ((), ()))) (fun b0_0 r1 r2 r3 k5 s31 s32 => g.2.1 (((b0_0, (), (), ()), r1, r2, r3, ()), ((), (), k5, (), s31, s32, ()), ((), ()))) (fun b0_0 r1 r2 r3 r4 at9 => g.2.2.1 (((b0_0, (), (), ()), r1, r2, r3, r4, ()), ((), (), (), at9, ()), ((), ()))) (fun b0_0 r1 r2 r3 r4 at9 s75 s76 => g.2.2.2.1 (((b0_0, (), (), ()), r1, r2, r3, r4, ()), ((), (), (), at9, (), s75, s76, ()), ((), ()))) b0_0 r1 r2 r3 k5) ?_ (fun g => by kernel_rfl)
    simp only [i_FirstFewest_t1]; repeat (first | exact Tail.const _ | exact Tail.here _ | exact Tail.there (Tail.here _) | exact Tail.there (Tail.there (Tail.here _)) | exact Tail.there (Tail.there (Tail.there (Tail.here _))) | exact Tail.there (Tail.there (Tail.there (Tail.there (Tail.here _)))) | exact Tail.there (Tail.there (Tail.there (Tail.there (Tail.there (Tail.here _))))) | apply Tail.cond | (apply Tail.bind; intro _)),
  fun s => by
    obtain ⟨⟨⟨b0_0, _, _, _⟩, r1, r2, r3, _⟩, ⟨_, _, k5, _, s31, s32, _⟩, ⟨_, _⟩⟩ := s
    refine Tail.eq (Y := fun g => i_FirstFewest_t2 (fun b0_0 r1 r2 r3 k5 => g.1 (((b0_0, (), (), ()), r1, r2, r3, ()), ((), (), k5, ()), ((), ()))) (fun b0_0 r1 r2 r3 k5 s31 s32 => g.2.1 (((b0_0, (), (), ()), r1, r2, r3, ()), ((), (), k5, (), s31, s32, ()), ((), ()))) (fun b0_0 r1 r2 r3 r4 at9 => g.2.2.1 (((b0_0, (), (), ()), r1, r2, r3, r4, ()), ((), (), (), at9, ()), ((), ()))) (fun b0_0 r1 r2 r3 r4 at9 s75 s76 => g.2.2.2.1 (((b0_0, (), (), ()), r1, r2, r3, r4, ()), ((), (), (), at9, (), s75, s76, ()), ((), ()))) b0_0 r1 r2 r3 k5 s31 s32) ?_ (fun g => by kernel_rfl)
    simp only [i_FirstFewest_t2]; repeat (first | exact Tail.const _ | exact Tail.here _ | exact Tail.there (Tail.here _) | exact Tail.there (Tail.there (Tail.here _)) | exact Tail.there (Tail.there (Tail.there (Tail.here _))) | exact Tail.there (Tail.there (Tail.there (Tail.there (Tail.here _)))) | exact Tail.there (Tail.there (Tail.there (Tail.there (Tail.there (Tail.here _))))) | apply Tail.cond | (apply Tail.bind; intro _)),
  fun s => by
    obtain ⟨⟨⟨b0_0, _, _, _⟩, r1, r2, r3, r4, _⟩, ⟨_, _, _, at9, _⟩, ⟨_, _⟩⟩ := s
    refine Tail.eq (Y := fun g => i_FirstFewest_t3 (fun b0_0 r1 r2 r3 k5 => g.1 (((b0_0, (), (), ()), r1, r2, r3, ()), ((), (), k5, ()), ((), ()))) (fun b0_0 r1 r2 r3 k5 s31 s32 => g.2.1 (((b0_0, (), (), ()), r1, r2, r3, ()), ((), (), k5, (), s31, s32, ()), ((), ()))) (fun b0_0 r1 r2 r3 r4 at9 => g.2.2.1 (((b0_0, (), (), ()), r1, r2, r3, r4, ()), ((), (), (), at9, ()), ((), ()))) (fun b0_0 r1 r2 r3 r4 at9 s75 s76 => g.2.2.2.1 (((b0_0, (), (), ()), r1, r2, r3, r4, ()), ((), (), (), at9, (), s75, s76, ()), ((), ()))) b0_0 r1 r2 r3 r4 at9) ?_ (fun g => by kernel_rfl)
    simp only [i_FirstFewest_t3]; repeat (first | exact Tail.const _ | exact Tail.here _ | exact Tail.there (Tail.here _) | exact Tail.there (Tail.there (Tail.here _)) | exact Tail.there (Tail.there (Tail.there (Tail.here _))) | exact Tail.there (Tail.there (Tail.there (Tail.there (Tail.here _)))) | exact Tail.there (Tail.there (Tail.there (Tail.there (Tail.there (Tail.here _))))) | apply Tail.cond | (apply Tail.bind; intro _)),
  fun s => by
    obtain ⟨⟨⟨b0_0, _, _, _⟩, r1, r2, r3, r4, _⟩, ⟨_, _, _, at9, _, s75, s76, _⟩, ⟨_, _⟩⟩ := s
    refine Tail.eq (Y := fun g => i_FirstFewest_t4 (fun b0_0 r1 r2 r3 k5 => g.1 (((b0_0, (), (), ()), r1, r2, r3, ()), ((), (), k5, ()), ((), ()))) (fun b0_0 r1 r2 r3 k5 s31 s32 => g.2.1 (((b0_0, (), (), ()), r1, r2, r3, ()), ((), (), k5, (), s31, s32, ()), ((), ()))) (fun b0_0 r1 r2 r3 r4 at9 => g.2.2.1 (((b0_0, (), (), ()), r1, r2, r3, r4, ()), ((), (), (), at9, ()), ((), ()))) (fun b0_0 r1 r2 r3 r4 at9 s75 s76 => g.2.2.2.1 (((b0_0, (), (), ()), r1, r2, r3, r4, ()), ((), (), (), at9, (), s75, s76, ()), ((), ()))) b0_0 r1 r2 r3 r4 at9 s75 s76) ?_ (fun g => by kernel_rfl)
    simp only [i_FirstFewest_t4]; repeat (first | exact Tail.const _ | exact Tail.here _ | exact Tail.there (Tail.here _) | exact Tail.there (Tail.there (Tail.here _)) | exact Tail.there (Tail.there (Tail.there (Tail.here _))) | exact Tail.there (Tail.there (Tail.there (Tail.there (Tail.here _)))) | exact Tail.there (Tail.there (Tail.there (Tail.there (Tail.there (Tail.here _))))) | apply Tail.cond | (apply Tail.bind; intro _)), trivial⟩
theorem i_FirstFewest_hs : ∀ x, Tail c_i_FirstFewest.pts (fun g => c_i_FirstFewest.start g x) := fun x => by
    obtain ⟨⟨s0_Steps, s0_Strides, s0_Broken⟩, _⟩ := x
    refine Tail.eq (Y := fun g => i_FirstFewest_t0 (fun b0_0 r1 r2 r3 k5 => g.1 (((b0_0, (), (), ()), r1, r2, r3, ()), ((), (), k5, ()), ((), ()))) (fun b0_0 r1 r2 r3 k5 s31 s32 => g.2.1 (((b0_0, (), (), ()), r1, r2, r3, ()), ((), (), k5, (), s31, s32, ()), ((), ()))) (fun b0_0 r1 r2 r3 r4 at9 => g.2.2.1 (((b0_0, (), (), ()), r1, r2, r3, r4, ()), ((), (), (), at9, ()), ((), ()))) (fun b0_0 r1 r2 r3 r4 at9 s75 s76 => g.2.2.2.1 (((b0_0, (), (), ()), r1, r2, r3, r4, ()), ((), (), (), at9, (), s75, s76, ()), ((), ()))) s0_Steps s0_Strides s0_Broken) ?_ (fun g => by kernel_rfl)
    simp only [i_FirstFewest_t0]; repeat (first | exact Tail.const _ | exact Tail.here _ | exact Tail.there (Tail.here _) | exact Tail.there (Tail.there (Tail.here _)) | exact Tail.there (Tail.there (Tail.there (Tail.here _))) | exact Tail.there (Tail.there (Tail.there (Tail.there (Tail.here _)))) | exact Tail.there (Tail.there (Tail.there (Tail.there (Tail.there (Tail.here _))))) | apply Tail.cond | (apply Tail.bind; intro _))
noncomputable def i_FirstFewest_L1 (b0_0 : Int) (r1 : List (Int)) (r2 : List (Int)) (r3 : List (Int)) (k5 : Int) : Option (List Int × Bool) := c_i_FirstFewest.L.1 (((b0_0, (), (), ()), r1, r2, r3, ()), ((), (), k5, ()), ((), ()))
noncomputable def i_FirstFewest_L2 (b0_0 : Int) (r1 : List (Int)) (r2 : List (Int)) (r3 : List (Int)) (k5 : Int) (s31 : Int) (s32 : Int) : Option (List Int × Bool) := c_i_FirstFewest.L.2.1 (((b0_0, (), (), ()), r1, r2, r3, ()), ((), (), k5, (), s31, s32, ()), ((), ()))
noncomputable def i_FirstFewest_L3 (b0_0 : Int) (r1 : List (Int)) (r2 : List (Int)) (r3 : List (Int)) (r4 : List (Int)) (at9 : Int) : Option (List Int × Bool) := c_i_FirstFewest.L.2.2.1 (((b0_0, (), (), ()), r1, r2, r3, r4, ()), ((), (), (), at9, ()), ((), ()))
noncomputable def i_FirstFewest_L4 (b0_0 : Int) (r1 : List (Int)) (r2 : List (Int)) (r3 : List (Int)) (r4 : List (Int)) (at9 : Int) (s75 : Int) (s76 : Int) : Option (List Int × Bool) := c_i_FirstFewest.L.2.2.2.1 (((b0_0, (), (), ()), r1, r2, r3, r4, ()), ((), (), (), at9, (), s75, s76, ()), ((), ()))
theorem i_FirstFewest_u1 (b0_0 : Int) (r1 : List (Int)) (r2 : List (Int)) (r3 : List (Int)) (k5 : Int) : i_FirstFewest_L1 b0_0 r1 r2 r3 k5 = i_FirstFewest_t1 i_FirstFewest_L1 i_FirstFewest_L2 i_FirstFewest_L3 i_FirstFewest_L4 b0_0 r1 r2 r3 k5 :=
  (congrArg (fun g => g.1 (((b0_0, (), (), ()), r1, r2, r3, ()), ((), (), k5, ()), ((), ()))) (FnCx.L_eq i_FirstFewest_ts)).trans (by kernel_rfl)
theorem i_FirstFewest_u2 (b0_0 : Int) (r1 : List (Int)) (r2 : List (Int)) (r3 : List (Int)) (k5 : Int) (s31 : Int) (s32 : Int) : i_FirstFewest_L2 b0_0 r1 r2 r3 k5 s31 s32 = i_FirstFewest_t2 i_FirstFewest_L1 i_FirstFewest_L2 i_FirstFewest_L3 i_FirstFewest_L4 b0_0 r1 r2 r3 k5 s31 s32 :=
  (congrArg (fun g => g.2.1 (((b0_0, (), (), ()), r1, r2, r3, ()), ((), (), k5, (), s31, s32, ()), ((), ()))) (FnCx.L_eq i_FirstFewest_ts)).trans (by kernel_rfl)
theorem i_FirstFewest_u3 (b0_0 : Int) (r1 : List (Int)) (r2 : List (Int)) (r3 : List (Int)) (r4 : List (Int)) (at9 : Int) : i_FirstFewest_L3 b0_0 r1 r2 r3 r4 at9 = i_FirstFewest_t3 i_FirstFewest_L1 i_FirstFewest_L2 i_FirstFewest_L3 i_FirstFewest_L4 b0_0 r1 r2 r3 r4 at9 :=
  (congrArg (fun g => g.2.2.1 (((b0_0, (), (), ()), r1, r2, r3, r4, ()), ((), (), (), at9, ()), ((), ()))) (FnCx.L_eq i_FirstFewest_ts)).trans (by kernel_rfl)
theorem i_FirstFewest_u4 (b0_0 : Int) (r1 : List (Int)) (r2 : List (Int)) (r3 : List (Int)) (r4 : List (Int)) (at9 : Int) (s75 : Int) (s76 : Int) : i_FirstFewest_L4 b0_0 r1 r2 r3 r4 at9 s75 s76 = i_FirstFewest_t4 i_FirstFewest_L1 i_FirstFewest_L2 i_FirstFewest_L3 i_FirstFewest_L4 b0_0 r1 r2 r3 r4 at9 s75 s76 :=
  (congrArg (fun g => g.2.2.2.1 (((b0_0, (), (), ()), r1, r2, r3, r4, ()), ((), (), (), at9, (), s75, s76, ()), ((), ()))) (FnCx.L_eq i_FirstFewest_ts)).trans (by kernel_rfl)
noncomputable def i_FirstFewest (s0_Steps : Int) (s0_Strides : List Int) (s0_Broken : List Int) : Option (List Int × Bool) := i_FirstFewest_t0 i_FirstFewest_L1 i_FirstFewest_L2 i_FirstFewest_L3 i_FirstFewest_L4 s0_Steps s0_Strides s0_Broken
theorem i_FirstFewest_e (s0_Steps : Int) (s0_Strides : List Int) (s0_Broken : List Int) : c_i_FirstFewest.start c_i_FirstFewest.L ((s0_Steps, s0_Strides, s0_Broken), ()) = i_FirstFewest s0_Steps s0_Strides s0_Broken := by kernel_rfl
noncomputable def F_i_FirstFewest : Ins c_i_FirstFewest.ins → Option (List Int × Bool) := fun x => i_FirstFewest x.1.1 x.1.2.1 x.1.2.2
noncomputable def S_i_FirstFewest : FSpec := mkF c_i_FirstFewest.env.pre c_i_FirstFewest.ins c_i_FirstFewest.out c_i_FirstFewest.inj F_i_FirstFewest
theorem h_i_FirstFewest : Cert Try.prog 139 S_i_FirstFewest := FnCx.certF (c := c_i_FirstFewest) F_i_FirstFewest (tyOk _ _ _) (spOk ⟨h_i_AreStairs, fun _ _ _ => trivial, ⟨h_i_Stairs_isBroken, fun _ _ _ => trivial, trivial⟩⟩) (fun _ _ _ _ _ hs => evDr_ok (tyOk _ _ _) hs follows) Try.func139 rfl rfl Try.ntmps139 (by kernel_rfl) rfl rfl (fun _ => rfl) i_FirstFewest_ts i_FirstFewest_hs (fun x t hb ht => by
  obtain ⟨⟨s0_Steps, s0_Strides, s0_Broken⟩, _⟩ := x
  exact (i_FirstFewest_e s0_Steps s0_Strides s0_Broken).trans ht)
/-! spec.FirstFewest -/
noncomputable def c_s_FirstFewest : FnCx := { env := env 69 [(136, S_s_FewestStrides), (251, S_s_clLeft)] [], body := bodyOf Try.f140, res := [.tmp 2, .tmp 3], ins := [.ro kStairs], out := [(kSint, true), (kbool, true)], T := List Int × Bool, fin := fun r => (r.1.1, r.1.2.1), inj := fun t => ((t.1, t.2, ()), ((), ())), pts := [([.inLoop [1, 1, 1, 1, 0, 1, 0, 0], .inBlock 0, .code [1, 1, 1, 1, 1]], Shape.mk [Bs.box 96 [Cs.sc kint, Cs.sl 3, Cs.sl 4], Bs.row kint 3 true, Bs.row kint 3 true, Bs.row kint 3 false, Bs.row kint 3 false] [(1, Ss.one (Cs.ptr 0 0)), (6, Ss.one (Cs.sl 1)), (7, Ss.one (Cs.sl 2)), (8, Ss.one (Cs.sc kint))] [Ss.one (Cs.any)]), ([.inLoop [1, 1, 1, 1, 0, 1, 0, 0, 1, 0, 1, 0, 0], .inBlock 2, .inBlock 1, .inLoop [1, 1, 1, 1, 0, 1, 0, 0], .inBlock 0, .code [1, 1, 1, 1, 1]], Shape.mk [Bs.box 96 [Cs.sc kint, Cs.sl 3, Cs.sl 4], Bs.row kint 3 true, Bs.row kint 3 true, Bs.row kint 3 false, Bs.row kint 3 false] [(1, Ss.one (Cs.ptr 0 0)), (6, Ss.one (Cs.sl 1)), (7, Ss.one (Cs.sl 2)), (8, Ss.one (Cs.sc kint)), (25, Ss.one (Cs.sl 3)), (26, Ss.one (Cs.sc kint)), (27, Ss.one (Cs.sc kint))] [Ss.one (Cs.any)])], fuel := 400, dr := evDr (env 69 [(136, S_s_FewestStrides), (251, S_s_clLeft)] []) }
noncomputable def s_FirstFewest_t1 (g1 : Int → List (Int) → List (Int) → List (Int) → List (Int) → Int → Option (List Int × Bool)) (g2 : Int → List (Int) → List (Int) → List (Int) → List (Int) → Int → Int → Int → Option (List Int × Bool)) (b0_0 : Int) (r1 : List (Int)) (r2 : List (Int)) (r3 : List (Int)) (r4 : List (Int)) (at8 : Int) : Option (List Int × Bool) :=
  bif decide (at8 < b0_0) then g2 b0_0 r1 r2 r3 r4 at8 (↑(List.length r3) : Int) 0 else some (r2, true)
noncomputable def s_FirstFewest_t2 (g1 : Int → List (Int) → List (Int) → List (Int) → List (Int) → Int → Option (List Int × Bool)) (g2 : Int → List (Int) → List (Int) → List (Int) → List (Int) → Int → Int → Int → Option (List Int × Bool)) (b0_0 : Int) (r1 : List (Int)) (r2 : List (Int)) (r3 : List (Int)) (r4 : List (Int)) (at8 : Int) (s26 : Int) (s27 : Int) : Option (List Int × Bool) :=
  bif decide (s27 < s26) then
    bif decide (0 ≤ s27) then
      bif decide (s27 < (↑(List.length r3) : Int)) then
        bif decide (IntKind.wrap IntKind.i64 (at8 + rdk kint r3 s27) ≤ b0_0) then
          bif decide (0 ≤ IntKind.wrap IntKind.i64 (at8 + rdk kint r3 s27)) then
            bif decide (IntKind.wrap IntKind.i64 (at8 + rdk kint r3 s27) < (↑(List.length r1) : Int)) then
              bif decide (rdk kint r1 (IntKind.wrap IntKind.i64 (at8 + rdk kint r3 s27)) ≥ 0) then
                bif decide (0 ≤ IntKind.wrap IntKind.i64 (at8 + rdk kint r3 s27)) then
                  bif decide (IntKind.wrap IntKind.i64 (at8 + rdk kint r3 s27) < (↑(List.length r1) : Int)) then
                    bif decide (0 ≤ at8) then
                      bif decide (at8 < (↑(List.length r1) : Int)) then
                        bif
                            rdk kint r1 (IntKind.wrap IntKind.i64 (at8 + rdk kint r3 s27)) ==
                              IntKind.wrap IntKind.i64 (rdk kint r1 at8 - 1) then
                          bif Nat.ble (List.length r2 + 1) 4294967296 then
                            g1 b0_0 r1 (r2 ++ [rdk kint r3 s27]) r3 r4 (IntKind.wrap IntKind.i64 (at8 + rdk kint r3 s27))
                          else none
                        else g2 b0_0 r1 r2 r3 r4 at8 s26 (IntKind.wrap IntKind.i64 (s27 + 1))
                      else none
                    else none
                  else none
                else none
              else g2 b0_0 r1 r2 r3 r4 at8 s26 (IntKind.wrap IntKind.i64 (s27 + 1))
            else none
          else none
        else g2 b0_0 r1 r2 r3 r4 at8 s26 (IntKind.wrap IntKind.i64 (s27 + 1))
      else none
    else none
  else g1 b0_0 r1 r2 r3 r4 at8
noncomputable def s_FirstFewest_t0 (g1 : Int → List (Int) → List (Int) → List (Int) → List (Int) → Int → Option (List Int × Bool)) (g2 : Int → List (Int) → List (Int) → List (Int) → List (Int) → Int → Int → Int → Option (List Int × Bool)) (s0_Steps : Int) (s0_Strides : List Int) (s0_Broken : List Int) : Option (List Int × Bool) :=
  Option.bind (s_FewestStrides s0_Steps s0_Strides s0_Broken) fun r =>
    bif !Prod.snd r then some ([], false) else Option.bind (s_clLeft s0_Steps s0_Strides s0_Broken false) fun r => g1 s0_Steps r [] s0_Strides s0_Broken 0
theorem s_FirstFewest_ts : Tails c_s_FirstFewest.pts c_s_FirstFewest.round :=
  ⟨fun s => by
    obtain ⟨⟨⟨b0_0, _, _, _⟩, r1, r2, r3, r4, _⟩, ⟨_, _, _, at8, _⟩, ⟨_, _⟩⟩ := s
    refine Tail.eq (Y := fun g => s_FirstFewest_t1 (fun b0_0 r1 r2 r3 r4 at8 => g.1 (((b0_0, (), (), ()), r1, r2, r3, r4, ()), ((), (), (), at8, ()), ((), ()))) (fun b0_0 r1 r2 r3 r4 at8 s26 s27 => g.2.1 (((b0_0, (), (), ()), r1, r2, r3, r4, ()), ((), (), (), at8, (), s26, s27, ()), ((), ()))) b0_0 r1 r2 r3 r4 at8) ?_ (fun g => by kernel_rfl)
    simp only [s_FirstFewest_t1]; repeat (first | exact Tail.const _ | exact Tail.here _ | exact Tail.there (Tail.here _) | exact Tail.there (Tail.there (Tail.here _)) | exact Tail.there (Tail.there (Tail.there (Tail.here _))) | exact Tail.there (Tail.there (Tail.there (Tail.there (Tail.here _)))) | exact Tail.there (Tail.there (Tail.there (Tail.there (Tail.there (Tail.here _))))) | apply Tail.cond | (apply Tail.bind; intro _)),
  fun s => by
    obtain ⟨⟨⟨b0_0, _, _, _⟩, r1, r2, r3, r4, _⟩, ⟨_, _, _, at8, _, s26, s27, _⟩, ⟨_, _⟩⟩ := s
    refine Tail.eq (Y := fun g => s_FirstFewest_t2 (fun b0_0 r1 r2 r3 r4 at8 => g.1 (((b0_0, (), (), ()), r1, r2, r3, r4, ()), ((), (), (), at8, ()), ((), ()))) (fun b0_0 r1 r2 r3 r4 at8 s26 s27 => g.2.1 (((b0_0, (), (), ()), r1, r2, r3, r4, ()), ((), (), (), at8, (), s26, s27, ()), ((), ()))) b0_0 r1 r2 r3 r4 at8 s26 s27) ?_ (fun g => by kernel_rfl)
    simp only [s_FirstFewest_t2]; repeat (first | exact Tail.const _ | exact Tail.here _ | exact Tail.there (Tail.here _) | exact Tail.there (Tail.there (Tail.here _)) | exact Tail.there (Tail.there (Tail.there (Tail.here _))) | exact Tail.there (Tail.there (Tail.there (Tail.there (Tail.here _)))) | exact Tail.there (Tail.there (Tail.there (Tail.there (Tail.there (Tail.here _))))) | apply Tail.cond | (apply Tail.bind; intro _)), trivial⟩
theorem s_FirstFewest_hs : ∀ x, Tail c_s_FirstFewest.pts (fun g => c_s_FirstFewest.start g x) := fun x => by
    obtain ⟨⟨s0_Steps, s0_Strides, s0_Broken⟩, _⟩ := x
    refine Tail.eq (Y := fun g => s_FirstFewest_t0 (fun b0_0 r1 r2 r3 r4 at8 => g.1 (((b0_0, (), (), ()), r1, r2, r3, r4, ()), ((), (), (), at8, ()), ((), ()))) (fun b0_0 r1 r2 r3 r4 at8 s26 s27 => g.2.1 (((b0_0, (), (), ()), r1, r2, r3, r4, ()), ((), (), (), at8, (), s26, s27, ()), ((), ()))) s0_Steps s0_Strides s0_Broken) ?_ (fun g => by kernel_rfl)
    simp only [s_FirstFewest_t0]; repeat (first | exact Tail.const _ | exact Tail.here _ | exact Tail.there (Tail.here _) | exact Tail.there (Tail.there (Tail.here _)) | exact Tail.there (Tail.there (Tail.there (Tail.here _))) | exact Tail.there (Tail.there (Tail.there (Tail.there (Tail.here _)))) | exact Tail.there (Tail.there (Tail.there (Tail.there (Tail.there (Tail.here _))))) | apply Tail.cond | (apply Tail.bind; intro _))
noncomputable def s_FirstFewest_L1 (b0_0 : Int) (r1 : List (Int)) (r2 : List (Int)) (r3 : List (Int)) (r4 : List (Int)) (at8 : Int) : Option (List Int × Bool) := c_s_FirstFewest.L.1 (((b0_0, (), (), ()), r1, r2, r3, r4, ()), ((), (), (), at8, ()), ((), ()))
noncomputable def s_FirstFewest_L2 (b0_0 : Int) (r1 : List (Int)) (r2 : List (Int)) (r3 : List (Int)) (r4 : List (Int)) (at8 : Int) (s26 : Int) (s27 : Int) : Option (List Int × Bool) := c_s_FirstFewest.L.2.1 (((b0_0, (), (), ()), r1, r2, r3, r4, ()), ((), (), (), at8, (), s26, s27, ()), ((), ()))
theorem s_FirstFewest_u1 (b0_0 : Int) (r1 : List (Int)) (r2 : List (Int)) (r3 : List (Int)) (r4 : List (Int)) (at8 : Int) : s_FirstFewest_L1 b0_0 r1 r2 r3 r4 at8 = s_FirstFewest_t1 s_FirstFewest_L1 s_FirstFewest_L2 b0_0 r1 r2 r3 r4 at8 :=
  (congrArg (fun g => g.1 (((b0_0, (), (), ()), r1, r2, r3, r4, ()), ((), (), (), at8, ()), ((), ()))) (FnCx.L_eq s_FirstFewest_ts)).trans (by kernel_rfl)
theorem s_FirstFewest_u2 (b0_0 : Int) (r1 : List (Int)) (r2 : List (Int)) (r3 : List (Int)) (r4 : List (Int)) (at8 : Int) (s26 : Int) (s27 : Int) : s_FirstFewest_L2 b0_0 r1 r2 r3 r4 at8 s26 s27 = s_FirstFewest_t2 s_FirstFewest_L1 s_FirstFewest_L2 b0_0 r1 r2 r3 r4 at8 s26 s27 :=
  (congrArg (fun g => g.2.1 (((b0_0, (), (), ()), r1, r2, r3, r4, ()), ((), (), (), at8, (), s26, s27, ()), ((), ()))) (FnCx.L_eq s_FirstFewest_ts)).trans (by kernel_rfl)
noncomputable def s_FirstFewest (s0_Steps : Int) (s0_Strides : List Int) (s0_Broken : List Int) : Option (List Int × Bool) := s_FirstFewest_t0 s_FirstFewest_L1 s_FirstFewest_L2 s0_Steps s0_Strides s0_Broken
theorem s_FirstFewest_e (s0_Steps : Int) (s0_Strides : List Int) (s0_Broken : List Int) : c_s_FirstFewest.start c_s_FirstFewest.L ((s0_Steps, s0_Strides, s0_Broken), ()) = s_FirstFewest s0_Steps s0_Strides s0_Broken := by kernel_rfl
noncomputable def F_s_FirstFewest : Ins c_s_FirstFewest.ins → Option (List Int × Bool) := fun x => s_FirstFewest x.1.1 x.1.2.1 x.1.2.2
noncomputable def S_s_FirstFewest : FSpec := mkF c_s_FirstFewest.env.pre c_s_FirstFewest.ins c_s_FirstFewest.out c_s_FirstFewest.inj F_s_FirstFewest
theorem h_s_FirstFewest : Cert Try.prog 140 S_s_FirstFewest := FnCx.certF (c := c_s_FirstFewest) F_s_FirstFewest (tyOk _ _ _) (spOk ⟨h_s_FewestStrides, fun _ _ _ => trivial, ⟨h_s_clLeft, fun _ _ _ => trivial, trivial⟩⟩) (fun _ _ _ _ _ hs => evDr_ok (tyOk _ _ _) hs follows) Try.func140 rfl rfl Try.ntmps140 (by kernel_rfl) rfl rfl (fun _ => rfl) s_FirstFewest_ts s_FirstFewest_hs (fun x t hb ht => by
  obtain ⟨⟨s0_Steps, s0_Strides, s0_Broken⟩, _⟩ := x
  exact (s_FirstFewest_e s0_Steps s0_Strides s0_Broken).trans ht)
end Go.Proofs.Ythenlapjhlljnaa.V
