/- Functions of the program, as plain functions. No condition. -/
import Derived.Test.YthenlapjhlljnaaD1
set_option linter.unusedVariables false
set_option linter.unusedSimpArgs false
set_option maxRecDepth 100000
namespace Go.Proofs.Ythenlapjhlljnaa.V
open Go Go.Ev Go.Proofs
/-! (impl.Stairs).byStrides -/
noncomputable def c_i_Stairs_byStrides : FnCx := { env := env 76 [(252, S_i_Stairs_isBroken)] [], body := bodyOf Try.f249, res := [.tmp 2], ins := [.ro kStairs], out := [(kSint, true)], T := List Int, fin := fun r => r.1.1, inj := fun t => ((t, ()), ((), ())), pts := [([.inLoop [1, 1, 1, 0, 1, 0, 0], .inBlock 0, .code [1, 1, 1, 1]], Shape.mk [Bs.box 96 [Cs.sc kint, Cs.sl 3, Cs.sl 4], Bs.row kint 3 true, Bs.row kint 3 true, Bs.row kint 3 false, Bs.row kint 3 false] [(1, Ss.one (Cs.ptr 0 0)), (3, Ss.one (Cs.sl 1)), (4, Ss.one (Cs.sl 2)), (19, Ss.one (Cs.sc kint)), (20, Ss.one (Cs.sc kint))] [Ss.one (Cs.any)]), ([.inLoop [1, 1, 1, 0, 1, 0, 0, 1, 1, 0, 0, 1, 1, 0, 1, 0, 0], .inBlock 2, .code [1, 1, 1, 0, 1, 0, 0, 1, 1, 0, 0, 1, 1, 1], .inBlock 1, .code [1, 1, 1, 0, 1, 0, 0, 1, 1, 1], .inLoop [1, 1, 1, 0, 1, 0, 0], .inBlock 0, .code [1, 1, 1, 1]], Shape.mk [Bs.box 96 [Cs.sc kint, Cs.sl 4, Cs.sl 5], Bs.row kint 3 true, Bs.row kint 3 true, Bs.row kint 3 true, Bs.row kint 3 false, Bs.row kint 3 false] [(1, Ss.one (Cs.ptr 0 0)), (3, Ss.one (Cs.sl 1)), (5, Ss.one (Cs.sl 2)), (19, Ss.one (Cs.sc kint)), (20, Ss.one (Cs.sc kint)), (34, Ss.one (Cs.sl 3)), (35, Ss.one (Cs.sc kint)), (36, Ss.one (Cs.sc kint))] [Ss.one (Cs.any)]), ([.inLoop [1, 1, 1, 0, 1, 0, 0, 1, 1, 0, 0, 1, 1, 0, 1, 0, 0, 1, 1, 0, 0, 1, 1, 0, 0], .inBlock 4, .inBlock 3, .code [1, 1, 1, 0, 1, 0, 0, 1, 1, 0, 0, 1, 1, 0, 1, 0, 0, 1, 1, 1], .inLoop [1, 1, 1, 0, 1, 0, 0, 1, 1, 0, 0, 1, 1, 0, 1, 0, 0], .inBlock 2, .code [1, 1, 1, 0, 1, 0, 0, 1, 1, 0, 0, 1, 1, 1], .inBlock 1, .code [1, 1, 1, 0, 1, 0, 0, 1, 1, 1], .inLoop [1, 1, 1, 0, 1, 0, 0], .inBlock 0, .code [1, 1, 1, 1]], Shape.mk [Bs.box 96 [Cs.sc kint, Cs.sl 4, Cs.sl 5], Bs.row kint 3 true, Bs.row kint 3 true, Bs.row kint 3 true, Bs.row kint 3 false, Bs.row kint 3 false] [(1, Ss.one (Cs.ptr 0 0)), (3, Ss.one (Cs.sl 1)), (5, Ss.one (Cs.sl 2)), (6, Ss.one (Cs.sc kint)), (7, Ss.one (Cs.sc kint)), (19, Ss.one (Cs.sc kint)), (20, Ss.one (Cs.sc kint)), (34, Ss.one (Cs.sl 3)), (35, Ss.one (Cs.sc kint)), (36, Ss.one (Cs.sc kint)), (42, Ss.one (Cs.sl 4)), (43, Ss.one (Cs.sc kint)), (44, Ss.one (Cs.sc kint))] [Ss.one (Cs.any)])], fuel := 400, dr := evDr (env 76 [(252, S_i_Stairs_isBroken)] []) }
noncomputable def i_Stairs_byStrides_t1 (g1 : Int → List (Int) → List (Int) → List (Int) → List (Int) → Int → Int → Option (List Int)) (g2 : Int → List (Int) → List (Int) → List (Int) → List (Int) → List (Int) → Int → Int → Int → Int → Option (List Int)) (g3 : Int → List (Int) → List (Int) → List (Int) → List (Int) → List (Int) → Int → Int → Int → Int → Int → Int → Int → Int → Option (List Int)) (b0_0 : Int) (r1 : List (Int)) (r2 : List (Int)) (r3 : List (Int)) (r4 : List (Int)) (s19 : Int) (s20 : Int) : Option (List Int) :=
  bif decide (s20 < s19) then
    bif decide (0 ≤ b0_0) then
      bif decide (b0_0 < (↑(List.length r2) : Int)) then
        bif Nat.ble (List.length r1 + 1) 4294967296 then
          bif IntKind.wrap IntKind.i64 (b0_0 + 1) == IntKind.wrap IntKind.i64 (b0_0 + 1) then
            bif decide (0 ≤ IntKind.wrap IntKind.i64 (b0_0 + 1)) then
              bif decide (IntKind.wrap IntKind.i64 (b0_0 + 1) ≤ (↑4294967296 : Int)) then
                g2 b0_0 (r1 ++ [rdk kint r2 b0_0]) (List.replicate (Int.toNat (IntKind.wrap IntKind.i64 (b0_0 + 1))) (Kd.zero kint)) r2 r3 r4 s19
                  s20 (↑(List.length r2) : Int) 0
              else none
            else none
          else none
        else none
      else none
    else none
  else some r1
noncomputable def i_Stairs_byStrides_t2 (g1 : Int → List (Int) → List (Int) → List (Int) → List (Int) → Int → Int → Option (List Int)) (g2 : Int → List (Int) → List (Int) → List (Int) → List (Int) → List (Int) → Int → Int → Int → Int → Option (List Int)) (g3 : Int → List (Int) → List (Int) → List (Int) → List (Int) → List (Int) → Int → Int → Int → Int → Int → Int → Int → Int → Option (List Int)) (b0_0 : Int) (r1 : List (Int)) (r2 : List (Int)) (r3 : List (Int)) (r4 : List (Int)) (r5 : List (Int)) (s19 : Int) (s20 : Int) (s35 : Int) (s36 : Int) : Option (List Int) :=
  bif decide (s36 < s35) then
    bif decide (0 ≤ s36) then
      bif decide (s36 < (↑(List.length r3) : Int)) then g3 b0_0 r1 r2 r3 r4 r5 s36 (rdk kint r3 s36) s19 s20 s35 s36 (↑(List.length r4) : Int) 0
      else none
    else none
  else g1 b0_0 r1 r2 r4 r5 s19 (IntKind.wrap IntKind.i64 (s20 + 1))
noncomputable def i_Stairs_byStrides_t3 (g1 : Int → List (Int) → List (Int) → List (Int) → List (Int) → Int → Int → Option (List Int)) (g2 : Int → List (Int) → List (Int) → List (Int) → List (Int) → List (Int) → Int → Int → Int → Int → Option (List Int)) (g3 : Int → List (Int) → List (Int) → List (Int) → List (Int) → List (Int) → Int → Int → Int → Int → Int → Int → Int → Int → Option (List Int)) (b0_0 : Int) (r1 : List (Int)) (r2 : List (Int)) (r3 : List (Int)) (r4 : List (Int)) (r5 : List (Int)) (k6 : Int) (ways7 : Int) (s19 : Int) (s20 : Int) (s35 : Int) (s36 : Int) (s43 : Int) (s44 : Int) : Option (List Int) :=
  bif decide (s44 < s43) then
    bif decide (0 ≤ s44) then
      bif decide (s44 < (↑(List.length r4) : Int)) then
        bif decide (IntKind.wrap IntKind.i64 (k6 + rdk kint r4 s44) ≤ b0_0) then
          bif !i_Stairs_isBroken b0_0 r4 r5 (IntKind.wrap IntKind.i64 (k6 + rdk kint r4 s44)) then
            bif decide (0 ≤ IntKind.wrap IntKind.i64 (k6 + rdk kint r4 s44)) then
              bif decide (IntKind.wrap IntKind.i64 (k6 + rdk kint r4 s44) < (↑(List.length r2) : Int)) then
                bif decide (0 ≤ IntKind.wrap IntKind.i64 (k6 + rdk kint r4 s44)) then
                  bif decide (IntKind.wrap IntKind.i64 (k6 + rdk kint r4 s44) < (↑(List.length r2) : Int)) then
                    g3 b0_0 r1
                      (List.set r2 (Int.toNat (IntKind.wrap IntKind.i64 (k6 + rdk kint r4 s44)))
                        (IntKind.wrap IntKind.i64 (rdk kint r2 (IntKind.wrap IntKind.i64 (k6 + rdk kint r4 s44)) + ways7)))
                      r3 r4 r5 k6 ways7 s19 s20 s35 s36 s43 (IntKind.wrap IntKind.i64 (s44 + 1))
                  else none
                else none
              else none
            else none
          else g3 b0_0 r1 r2 r3 r4 r5 k6 ways7 s19 s20 s35 s36 s43 (IntKind.wrap IntKind.i64 (s44 + 1))
        else g3 b0_0 r1 r2 r3 r4 r5 k6 ways7 s19 s20 s35 s36 s43 (IntKind.wrap IntKind.i64 (s44 + 1))
      else none
    else none
  else g2 b0_0 r1 r2 r3 r4 r5 s19 s20 s35 (IntKind.wrap IntKind.i64 (s36 + 1))
noncomputable def i_Stairs_byStrides_t0 (g1 : Int → List (Int) → List (Int) → List (Int) → List (Int) → Int → Int → Option (List Int)) (g2 : Int → List (Int) → List (Int) → List (Int) → List (Int) → List (Int) → Int → Int → Int → Int → Option (List Int)) (g3 : Int → List (Int) → List (Int) → List (Int) → List (Int) → List (Int) → Int → Int → Int → Int → Int → Int → Int → Int → Option (List Int)) (s0_Steps : Int) (s0_Strides : List Int) (s0_Broken : List Int) : Option (List Int) :=
  bif IntKind.wrap IntKind.i64 (s0_Steps + 1) == IntKind.wrap IntKind.i64 (s0_Steps + 1) then
    bif decide (0 ≤ IntKind.wrap IntKind.i64 (s0_Steps + 1)) then
      bif decide (IntKind.wrap IntKind.i64 (s0_Steps + 1) ≤ (↑4294967296 : Int)) then
        bif decide (0 < (↑(List.length (List.replicate (Int.toNat (IntKind.wrap IntKind.i64 (s0_Steps + 1))) (Kd.zero kint))) : Int)) then
          g1 s0_Steps [] (List.set (List.replicate (Int.toNat (IntKind.wrap IntKind.i64 (s0_Steps + 1))) (Kd.zero kint)) (Int.toNat 0) 1) s0_Strides s0_Broken
            (IntKind.wrap IntKind.i64 (s0_Steps + 1)) 0
        else none
      else none
    else none
  else none
theorem i_Stairs_byStrides_ts : Tails c_i_Stairs_byStrides.pts c_i_Stairs_byStrides.round :=
  ⟨fun s => by
    obtain ⟨⟨⟨b0_0, _, _, _⟩, r1, r2, r3, r4, _⟩, ⟨_, _, _, s19, s20, _⟩, ⟨_, _⟩⟩ := s
    refine Tail.eq (Y := fun g => i_Stairs_byStrides_t1 (fun b0_0 r1 r2 r3 r4 s19 s20 => g.1 (((b0_0, (), (), ()), r1, r2, r3, r4, ()), ((), (), (), s19, s20, ()), ((), ()))) (fun b0_0 r1 r2 r3 r4 r5 s19 s20 s35 s36 => g.2.1 (((b0_0, (), (), ()), r1, r2, r3, r4, r5, ()), ((), (), (), s19, s20, (), s35, s36, ()), ((), ()))) (fun b0_0 r1 r2 r3 r4 r5 k6 ways7 s19 s20 s35 s36 s43 s44 => g.2.2.1 (((b0_0, (), (), ()), r1, r2, r3, r4, r5, ()), ((), (), (), k6, ways7, s19, s20, (), s35, s36, (), s43, s44, ()), ((), ()))) b0_0 r1 r2 r3 r4 s19 s20) ?_ (fun g => by kernel_rfl)
    simp only [i_Stairs_byStrides_t1]; repeat (first | exact Tail.const _ | exact Tail.here _ | exact Tail.there (Tail.here _) | exact Tail.there (Tail.there (Tail.here _)) | exact Tail.there (Tail.there (Tail.there (Tail.here _))) | exact Tail.there (Tail.there (Tail.there (Tail.there (Tail.here _)))) | exact Tail.there (Tail.there (Tail.there (Tail.there (Tail.there (Tail.here _))))) | apply Tail.cond | (apply Tail.bind; intro _)),
  fun s => by
    obtain ⟨⟨⟨b0_0, _, _, _⟩, r1, r2, r3, r4, r5, _⟩, ⟨_, _, _, s19, s20, _, s35, s36, _⟩, ⟨_, _⟩⟩ := s
    refine Tail.eq (Y := fun g => i_Stairs_byStrides_t2 (fun b0_0 r1 r2 r3 r4 s19 s20 => g.1 (((b0_0, (), (), ()), r1, r2, r3, r4, ()), ((), (), (), s19, s20, ()), ((), ()))) (fun b0_0 r1 r2 r3 r4 r5 s19 s20 s35 s36 => g.2.1 (((b0_0, (), (), ()), r1, r2, r3, r4, r5, ()), ((), (), (), s19, s20, (), s35, s36, ()), ((), ()))) (fun b0_0 r1 r2 r3 r4 r5 k6 ways7 s19 s20 s35 s36 s43 s44 => g.2.2.1 (((b0_0, (), (), ()), r1, r2, r3, r4, r5, ()), ((), (), (), k6, ways7, s19, s20, (), s35, s36, (), s43, s44, ()), ((), ()))) b0_0 r1 r2 r3 r4 r5 s19 s20 s35 s36) ?_ (fun g => by kernel_rfl)
    simp only [i_Stairs_byStrides_t2]; repeat (first | exact Tail.const _ | exact Tail.here _ | exact Tail.there (Tail.here _) | exact Tail.there (Tail.there (Tail.here _)) | exact Tail.there (Tail.there (Tail.there (Tail.here _))) | exact Tail.there (Tail.there (Tail.there (Tail.there (Tail.here _)))) | exact Tail.there (Tail.there (Tail.there (Tail.there (Tail.there (Tail.here _))))) | apply Tail.cond | (apply Tail.bind; intro _)),
  fun s => by
    obtain ⟨⟨⟨b0_0, _, _, _⟩, r1, r2, r3, r4, r5, _⟩, ⟨_, _, _, k6, ways7, s19, s20, _, s35, s36, _, s43, s44, _⟩, ⟨_, _⟩⟩ := s
    refine Tail.eq (Y := fun g => i_Stairs_byStrides_t3 (fun b0_0 r1 r2 r3 r4 s19 s20 => g.1 (((b0_0, (), (), ()), r1, r2, r3, r4, ()), ((), (), (), s19, s20, ()), ((), ()))) (fun b0_0 r1 r2 r3 r4 r5 s19 s20 s35 s36 => g.2.1 (((b0_0, (), (), ()), r1, r2, r3, r4, r5, ()), ((), (), (), s19, s20, (), s35, s36, ()), ((), ()))) (fun b0_0 r1 r2 r3 r4 r5 k6 ways7 s19 s20 s35 s36 s43 s44 => g.2.2.1 (((b0_0, (), (), ()), r1, r2, r3, r4, r5, ()), ((), (), (), k6, ways7, s19, s20, (), s35, s36, (), s43, s44, ()), ((), ()))) b0_0 r1 r2 r3 r4 r5 k6 ways7 s19 s20 s35 s36 s43 s44) ?_ (fun g => by kernel_rfl)
    simp only [i_Stairs_byStrides_t3]; repeat (first | exact Tail.const _ | exact Tail.here _ | exact Tail.there (Tail.here _) | exact Tail.there (Tail.there (Tail.here _)) | exact Tail.there (Tail.there (Tail.there (Tail.here _))) | exact Tail.there (Tail.there (Tail.there (Tail.there (Tail.here _)))) | exact Tail.there (Tail.there (Tail.there (Tail.there (Tail.there (Tail.here _))))) | apply Tail.cond | (apply Tail.bind; intro _)), trivial⟩
theorem i_Stairs_byStrides_hs : ∀ x, Tail c_i_Stairs_byStrides.pts (fun g => c_i_Stairs_byStrides.start g x) := fun x => by
    obtain ⟨⟨s0_Steps, s0_Strides, s0_Broken⟩, _⟩ := x
    refine Tail.eq (Y := fun g => i_Stairs_byStrides_t0 (fun b0_0 r1 r2 r3 r4 s19 s20 => g.1 (((b0_0, (), (), ()), r1, r2, r3, r4, ()), ((), (), (), s19, s20, ()), ((), ()))) (fun b0_0 r1 r2 r3 r4 r5 s19 s20 s35 s36 => g.2.1 (((b0_0, (), (), ()), r1, r2, r3, r4, r5, ()), ((), (), (), s19, s20, (), s35, s36, ()), ((), ()))) (fun b0_0 r1 r2 r3 r4 r5 k6 ways7 s19 s20 s35 s36 s43 s44 => g.2.2.1 (((b0_0, (), (), ()), r1, r2, r3, r4, r5, ()), ((), (), (), k6, ways7, s19, s20, (), s35, s36, (), s43, s44, ()), ((), ()))) s0_Steps s0_Strides s0_Broken) ?_ (fun g => by kernel_rfl)
    simp only [i_Stairs_byStrides_t0]; repeat (first | exact Tail.const _ | exact Tail.here _ | exact Tail.there (Tail.here _) | exact Tail.there (Tail.there (Tail.here _)) | exact Tail.there (Tail.there (Tail.there (Tail.here _))) | exact Tail.there (Tail.there (Tail.there (Tail.there (Tail.here _)))) | exact Tail.there (Tail.there (Tail.there (Tail.there (Tail.there (Tail.here _))))) | apply Tail.cond | (apply Tail.bind; intro _))
noncomputable def i_Stairs_byStrides_L1 (b0_0 : Int) (r1 : List (Int)) (r2 : List (Int)) (r3 : List (Int)) (r4 : List (Int)) (s19 : Int) (s20 : Int) : Option (List Int) := c_i_Stairs_byStrides.L.1 (((b0_0, (), (), ()), r1, r2, r3, r4, ()), ((), (), (), s19, s20, ()), ((), ()))
noncomputable def i_Stairs_byStrides_L2 (b0_0 : Int) (r1 : List (Int)) (r2 : List (Int)) (r3 : List (Int)) (r4 : List (Int)) (r5 : List (Int)) (s19 : Int) (s20 : Int) (s35 : Int) (s36 : Int) : Option (List Int) := c_i_Stairs_byStrides.L.2.1 (((b0_0, (), (), ()), r1, r2, r3, r4, r5, ()), ((), (), (), s19, s20, (), s35, s36, ()), ((), ()))
noncomputable def i_Stairs_byStrides_L3 (b0_0 : Int) (r1 : List (Int)) (r2 : List (Int)) (r3 : List (Int)) (r4 : List (Int)) (r5 : List (Int)) (k6 : Int) (ways7 : Int) (s19 : Int) (s20 : Int) (s35 : Int) (s36 : Int) (s43 : Int) (s44 : Int) : Option (List Int) := c_i_Stairs_byStrides.L.2.2.1 (((b0_0, (), (), ()), r1, r2, r3, r4, r5, ()), ((), (), (), k6, ways7, s19, s20, (), s35, s36, (), s43, s44, ()), ((), ()))
theorem i_Stairs_byStrides_u1 (b0_0 : Int) (r1 : List (Int)) (r2 : List (Int)) (r3 : List (Int)) (r4 : List (Int)) (s19 : Int) (s20 : Int) : i_Stairs_byStrides_L1 b0_0 r1 r2 r3 r4 s19 s20 = i_Stairs_byStrides_t1 i_Stairs_byStrides_L1 i_Stairs_byStrides_L2 i_Stairs_byStrides_L3 b0_0 r1 r2 r3 r4 s19 s20 :=
  (congrArg (fun g => g.1 (((b0_0, (), (), ()), r1, r2, r3, r4, ()), ((), (), (), s19, s20, ()), ((), ()))) (FnCx.L_eq i_Stairs_byStrides_ts)).trans (by kernel_rfl)
theorem i_Stairs_byStrides_u2 (b0_0 : Int) (r1 : List (Int)) (r2 : List (Int)) (r3 : List (Int)) (r4 : List (Int)) (r5 : List (Int)) (s19 : Int) (s20 : Int) (s35 : Int) (s36 : Int) : i_Stairs_byStrides_L2 b0_0 r1 r2 r3 r4 r5 s19 s20 s35 s36 = i_Stairs_byStrides_t2 i_Stairs_byStrides_L1 i_Stairs_byStrides_L2 i_Stairs_byStrides_L3 b0_0 r1 r2 r3 r4 r5 s19 s20 s35 s36 :=
  (congrArg (fun g => g.2.1 (((b0_0, (), (), ()), r1, r2, r3, r4, r5, ()), ((), (), (), s19, s20, (), s35, s36, ()), ((), ()))) (FnCx.L_eq i_Stairs_byStrides_ts)).trans (by kernel_rfl)
theorem i_Stairs_byStrides_u3 (b0_0 : Int) (r1 : List (Int)) (r2 : List (Int)) (r3 : List (Int)) (r4 : List (Int)) (r5 : List (Int)) (k6 : Int) (ways7 : Int) (s19 : Int) (s20 : Int) (s35 : Int) (s36 : Int) (s43 : Int) (s44 : Int) : i_Stairs_byStrides_L3 b0_0 r1 r2 r3 r4 r5 k6 ways7 s19 s20 s35 s36 s43 s44 = i_Stairs_byStrides_t3 i_Stairs_byStrides_L1 i_Stairs_byStrides_L2 i_Stairs_byStrides_L3 b0_0 r1 r2 r3 r4 r5 k6 ways7 s19 s20 s35 s36 s43 s44 :=
  (congrArg (fun g => g.2.2.1 (((b0_0, (), (), ()), r1, r2, r3, r4, r5, ()), ((), (), (), k6, ways7, s19, s20, (), s35, s36, (), s43, s44, ()), ((), ()))) (FnCx.L_eq i_Stairs_byStrides_ts)).trans (by kernel_rfl)
noncomputable def i_Stairs_byStrides (s0_Steps : Int) (s0_Strides : List Int) (s0_Broken : List Int) : Option (List Int) := i_Stairs_byStrides_t0 i_Stairs_byStrides_L1 i_Stairs_byStrides_L2 i_Stairs_byStrides_L3 s0_Steps s0_Strides s0_Broken
theorem i_Stairs_byStrides_e (s0_Steps : Int) (s0_Strides : List Int) (s0_Broken : List Int) : c_i_Stairs_byStrides.start c_i_Stairs_byStrides.L ((s0_Steps, s0_Strides, s0_Broken), ()) = i_Stairs_byStrides s0_Steps s0_Strides s0_Broken := by kernel_rfl
noncomputable def F_i_Stairs_byStrides : Ins c_i_Stairs_byStrides.ins → Option (List Int) := fun x => i_Stairs_byStrides x.1.1 x.1.2.1 x.1.2.2
noncomputable def S_i_Stairs_byStrides : FSpec := mkF c_i_Stairs_byStrides.env.pre c_i_Stairs_byStrides.ins c_i_Stairs_byStrides.out c_i_Stairs_byStrides.inj F_i_Stairs_byStrides
theorem h_i_Stairs_byStrides : Cert Try.prog 249 S_i_Stairs_byStrides := FnCx.certF (c := c_i_Stairs_byStrides) F_i_Stairs_byStrides (tyOk _ _ _) (spOk ⟨h_i_Stairs_isBroken, fun _ _ _ => trivial, trivial⟩) (fun _ _ _ _ _ hs => evDr_ok (tyOk _ _ _) hs follows) Try.func249 rfl rfl Try.ntmps249 (by kernel_rfl) rfl rfl (fun _ => rfl) i_Stairs_byStrides_ts i_Stairs_byStrides_hs (fun x t hb ht => by
  obtain ⟨⟨s0_Steps, s0_Strides, s0_Broken⟩, _⟩ := x
  exact (i_Stairs_byStrides_e s0_Steps s0_Strides s0_Broken).trans ht)
/-! impl.FewestStrides$1 -/
noncomputable def c_i_FewestStrides_c1 : FnCx := { env := env 5 [] [], body := bodyOf Try.f250, res := [.tmp 2], ins := [.ro kint], out := [(kbool, true)], T := Bool, fin := fun r => r.1.1, inj := fun t => ((t, ()), ((), ())), pts := [], fuel := 400, dr := noDr }
noncomputable def i_FewestStrides_c1 (n0 : Int) : Bool :=
  decide (n0 > 0)
theorem i_FewestStrides_c1_e (n0 : Int) : c_i_FewestStrides_c1.start c_i_FewestStrides_c1.L (n0, ()) = some (i_FewestStrides_c1 n0) := by kernel_rfl
noncomputable def F_i_FewestStrides_c1 : Ins c_i_FewestStrides_c1.ins → Bool := fun x => i_FewestStrides_c1 x.1
noncomputable def S_i_FewestStrides_c1 : FSpec := mkT c_i_FewestStrides_c1.env.pre c_i_FewestStrides_c1.ins c_i_FewestStrides_c1.out c_i_FewestStrides_c1.inj F_i_FewestStrides_c1
theorem h_i_FewestStrides_c1 : Cert Try.prog 250 S_i_FewestStrides_c1 := FnCx.certT (c := c_i_FewestStrides_c1) F_i_FewestStrides_c1 (tyOk _ _ _) (spOk trivial) (fun _ _ _ _ _ hs => noDr_ok) Try.func250 rfl rfl Try.ntmps250 (by kernel_rfl) rfl rfl (fun _ => rfl) trivial (fun x => .inl ⟨c_i_FewestStrides_c1.start () x, fun _ => rfl⟩) (fun x hb => by
  obtain ⟨n0, _⟩ := x
  exact i_FewestStrides_c1_e n0)
/-! slices.IndexFunc[[]int,int] -/
noncomputable def c_slices_IndexFunc_int__i_FewestStrides_c1 : FnCx := { env := env 19 [(250, S_i_FewestStrides_c1)] [], body := bodyOf Try.f248, res := [.tmp 4], ins := [.ro kSint, .fn 250 []], out := [(kint, true)], T := Int, fin := fun r => r.1.1, inj := fun t => ((t, ()), ((), (), ())), pts := [([.inLoop [1, 0, 1, 0, 0], .inBlock 0, .code [1, 1]], Shape.mk [Bs.row kint 3 false] [(0, Ss.one (Cs.sl 0)), (1, Ss.fn 250 []), (7, Ss.one (Cs.sc kint)), (8, Ss.one (Cs.sc kint))] [Ss.one (Cs.any), Ss.fn 250 []])], fuel := 400, dr := noDr }
noncomputable def slices_IndexFunc_int__i_FewestStrides_c1_t1 (g1 : List (Int) → Int → Int → Option (Int)) (r0 : List (Int)) (s7 : Int) (s8 : Int) : Option Int :=
  bif decide (s8 < s7) then
    bif decide (0 ≤ s8) then
      bif decide (s8 < (↑(List.length r0) : Int)) then
        bif i_FewestStrides_c1 (rdk kint r0 s8) then some s8 else g1 r0 s7 (IntKind.wrap IntKind.i64 (s8 + 1))
      else none
    else none
  else some (-1)
noncomputable def slices_IndexFunc_int__i_FewestStrides_c1_t0 (g1 : List (Int) → Int → Int → Option (Int)) (s0 : List Int) : Option Int :=
  g1 s0 (↑(List.length s0) : Int) 0
theorem slices_IndexFunc_int__i_FewestStrides_c1_ts : Tails c_slices_IndexFunc_int__i_FewestStrides_c1.pts c_slices_IndexFunc_int__i_FewestStrides_c1.round :=
  ⟨fun s => by
    obtain ⟨⟨r0, _⟩, ⟨_, _, s7, s8, _⟩, ⟨_, _, _⟩⟩ := s
    refine Tail.eq (Y := fun g => slices_IndexFunc_int__i_FewestStrides_c1_t1 (fun r0 s7 s8 => g.1 ((r0, ()), ((), (), s7, s8, ()), ((), (), ()))) r0 s7 s8) ?_ (fun g => by kernel_rfl)
    simp only [slices_IndexFunc_int__i_FewestStrides_c1_t1]; repeat (first | exact Tail.const _ | exact Tail.here _ | exact Tail.there (Tail.here _) | exact Tail.there (Tail.there (Tail.here _)) | exact Tail.there (Tail.there (Tail.there (Tail.here _))) | exact Tail.there (Tail.there (Tail.there (Tail.there (Tail.here _)))) | exact Tail.there (Tail.there (Tail.there (Tail.there (Tail.there (Tail.here _))))) | apply Tail.cond | (apply Tail.bind; intro _)), trivial⟩
theorem slices_IndexFunc_int__i_FewestStrides_c1_hs : ∀ x, Tail c_slices_IndexFunc_int__i_FewestStrides_c1.pts (fun g => c_slices_IndexFunc_int__i_FewestStrides_c1.start g x) := fun x => by
    obtain ⟨s0, _, _⟩ := x
    refine Tail.eq (Y := fun g => slices_IndexFunc_int__i_FewestStrides_c1_t0 (fun r0 s7 s8 => g.1 ((r0, ()), ((), (), s7, s8, ()), ((), (), ()))) s0) ?_ (fun g => by kernel_rfl)
    simp only [slices_IndexFunc_int__i_FewestStrides_c1_t0]; repeat (first | exact Tail.const _ | exact Tail.here _ | exact Tail.there (Tail.here _) | exact Tail.there (Tail.there (Tail.here _)) | exact Tail.there (Tail.there (Tail.there (Tail.here _))) | exact Tail.there (Tail.there (Tail.there (Tail.there (Tail.here _)))) | exact Tail.there (Tail.there (Tail.there (Tail.there (Tail.there (Tail.here _))))) | apply Tail.cond | (apply Tail.bind; intro _))
noncomputable def slices_IndexFunc_int__i_FewestStrides_c1_L1 (r0 : List (Int)) (s7 : Int) (s8 : Int) : Option Int := c_slices_IndexFunc_int__i_FewestStrides_c1.L.1 ((r0, ()), ((), (), s7, s8, ()), ((), (), ()))
theorem slices_IndexFunc_int__i_FewestStrides_c1_u1 (r0 : List (Int)) (s7 : Int) (s8 : Int) : slices_IndexFunc_int__i_FewestStrides_c1_L1 r0 s7 s8 = slices_IndexFunc_int__i_FewestStrides_c1_t1 slices_IndexFunc_int__i_FewestStrides_c1_L1 r0 s7 s8 :=
  (congrArg (fun g => g.1 ((r0, ()), ((), (), s7, s8, ()), ((), (), ()))) (FnCx.L_eq slices_IndexFunc_int__i_FewestStrides_c1_ts)).trans (by kernel_rfl)
noncomputable def slices_IndexFunc_int__i_FewestStrides_c1 (s0 : List Int) : Option Int := slices_IndexFunc_int__i_FewestStrides_c1_t0 slices_IndexFunc_int__i_FewestStrides_c1_L1 s0
theorem slices_IndexFunc_int__i_FewestStrides_c1_e (s0 : List Int) : c_slices_IndexFunc_int__i_FewestStrides_c1.start c_slices_IndexFunc_int__i_FewestStrides_c1.L (s0, (), ()) = slices_IndexFunc_int__i_FewestStrides_c1 s0 := by kernel_rfl
-- NICE tot
noncomputable def slices_IndexFunc_int__i_FewestStrides_c1_n (l : List Int) : Int := idxF (fun x => i_FewestStrides_c1 x) l 0
theorem slices_IndexFunc_int__i_FewestStrides_c1_ok (l : List Int) (hb : BdI c_slices_IndexFunc_int__i_FewestStrides_c1.ins (l, (), ())) : slices_IndexFunc_int__i_FewestStrides_c1 l = some (slices_IndexFunc_int__i_FewestStrides_c1_n l) :=
  have hm : l.length ≤ maxLen := hb.1.1
  loop_idx (L := fun i => slices_IndexFunc_int__i_FewestStrides_c1_L1 l l.length (i : Int)) (l := l) (p := fun x => i_FewestStrides_c1 x)
    (fun i h => by simp only [slices_IndexFunc_int__i_FewestStrides_c1_u1 l l.length i, slices_IndexFunc_int__i_FewestStrides_c1_t1, rdk_get (k := kint) h, wrapS h hm]; simp [h]) (by simp [slices_IndexFunc_int__i_FewestStrides_c1_u1 l l.length l.length, slices_IndexFunc_int__i_FewestStrides_c1_t1])
noncomputable def F_slices_IndexFunc_int__i_FewestStrides_c1 : Ins c_slices_IndexFunc_int__i_FewestStrides_c1.ins → Int := fun x => slices_IndexFunc_int__i_FewestStrides_c1_n x.1
noncomputable def S_slices_IndexFunc_int__i_FewestStrides_c1 : FSpec := mkT c_slices_IndexFunc_int__i_FewestStrides_c1.env.pre c_slices_IndexFunc_int__i_FewestStrides_c1.ins c_slices_IndexFunc_int__i_FewestStrides_c1.out c_slices_IndexFunc_int__i_FewestStrides_c1.inj F_slices_IndexFunc_int__i_FewestStrides_c1
theorem h_slices_IndexFunc_int__i_FewestStrides_c1 : Cert Try.prog 248 S_slices_IndexFunc_int__i_FewestStrides_c1 := FnCx.certT (c := c_slices_IndexFunc_int__i_FewestStrides_c1) F_slices_IndexFunc_int__i_FewestStrides_c1 (tyOk _ _ _) (spOk ⟨h_i_FewestStrides_c1, fun _ _ _ => trivial, trivial⟩) (fun _ _ _ _ _ hs => noDr_ok) Try.func248 rfl rfl Try.ntmps248 (by kernel_rfl) rfl rfl (fun _ => rfl) slices_IndexFunc_int__i_FewestStrides_c1_ts slices_IndexFunc_int__i_FewestStrides_c1_hs (fun x hb => by
  obtain ⟨s0, _, _⟩ := x
  exact (slices_IndexFunc_int__i_FewestStrides_c1_e s0).trans (slices_IndexFunc_int__i_FewestStrides_c1_ok s0 hb))
/-! impl.FewestStrides -/
noncomputable def c_i_FewestStrides : FnCx := { env := env 14 [(245, S_i_AreStairs), (249, S_i_Stairs_byStrides), (248, S_slices_IndexFunc_int__i_FewestStrides_c1)] [], body := bodyOf Try.f135, res := [.tmp 2, .tmp 3], ins := [.ro kStairs], out := [(kint, true), (kbool, true)], T := Int × Bool, fin := fun r => (r.1.1, r.1.2.1), inj := fun t => ((t.1, t.2, ()), ((), ())), pts := [], fuel := 400, dr := noDr }
noncomputable def i_FewestStrides (s0_Steps : Int) (s0_Strides : List Int) (s0_Broken : List Int) : Option (Int × Bool) :=
  bif !i_AreStairs s0_Steps s0_Strides s0_Broken then some (0, false)
  else
    Option.bind (i_Stairs_byStrides s0_Steps s0_Strides s0_Broken) fun r =>
      bif decide (slices_IndexFunc_int__i_FewestStrides_c1_n r < 0) then some (0, false) else some (slices_IndexFunc_int__i_FewestStrides_c1_n r, true)
theorem i_FewestStrides_e (s0_Steps : Int) (s0_Strides : List Int) (s0_Broken : List Int) : c_i_FewestStrides.start c_i_FewestStrides.L ((s0_Steps, s0_Strides, s0_Broken), ()) = i_FewestStrides s0_Steps s0_Strides s0_Broken := by kernel_rfl
noncomputable def F_i_FewestStrides : Ins c_i_FewestStrides.ins → Option (Int × Bool) := fun x => i_FewestStrides x.1.1 x.1.2.1 x.1.2.2
noncomputable def S_i_FewestStrides : FSpec := mkF c_i_FewestStrides.env.pre c_i_FewestStrides.ins c_i_FewestStrides.out c_i_FewestStrides.inj F_i_FewestStrides
theorem h_i_FewestStrides : Cert Try.prog 135 S_i_FewestStrides := FnCx.certF (c := c_i_FewestStrides) F_i_FewestStrides (tyOk _ _ _) (spOk ⟨h_i_AreStairs, fun _ _ _ => trivial, ⟨h_i_Stairs_byStrides, fun _ _ _ => trivial, ⟨h_slices_IndexFunc_int__i_FewestStrides_c1, fun _ _ _ => trivial, trivial⟩⟩⟩) (fun _ _ _ _ _ hs => noDr_ok) Try.func135 rfl rfl Try.ntmps135 (by kernel_rfl) rfl rfl (fun _ => rfl) trivial (fun x => .inl ⟨c_i_FewestStrides.start () x, fun _ => rfl⟩) (fun x t hb ht => by
  obtain ⟨⟨s0_Steps, s0_Strides, s0_Broken⟩, _⟩ := x
  exact (i_FewestStrides_e s0_Steps s0_Strides s0_Broken).trans ht)
/-! spec.clLeft -/
noncomputable def c_s_clLeft : FnCx := { env := env 91 [(282, S_s_clStands)] [], body := bodyOf Try.f251, res := [.tmp 4], ins := [.ro kStairs, .ro kbool], out := [(kSint, true)], T := List Int, fin := fun r => r.1.1, inj := fun t => ((t, ()), ((), (), ())), pts := [([.inLoop [1, 1, 0, 1, 0, 0], .inBlock 0, .code [1, 1, 1]], Shape.mk [Bs.box 96 [Cs.sc kint, Cs.sl 2, Cs.sl 3], Bs.row kint 3 true, Bs.row kint 3 false, Bs.row kint 3 false] [(1, Ss.one (Cs.sc kbool)), (2, Ss.one (Cs.ptr 0 0)), (5, Ss.one (Cs.sl 1)), (6, Ss.one (Cs.sc kint))] [Ss.one (Cs.any), Ss.one (Cs.any)]), ([.inLoop [1, 1, 0, 1, 0, 0, 1, 0, 0, 1, 1, 1, 0, 0], .inBlock 2, .inBlock 1, .code [1, 1, 0, 1, 0, 0, 1, 1], .inLoop [1, 1, 0, 1, 0, 0], .inBlock 0, .code [1, 1, 1]], Shape.mk [Bs.box 96 [Cs.sc kint, Cs.sl 2, Cs.sl 3], Bs.row kint 3 true, Bs.row kint 3 false, Bs.row kint 3 false] [(1, Ss.one (Cs.sc kbool)), (2, Ss.one (Cs.ptr 0 0)), (5, Ss.one (Cs.sl 1)), (6, Ss.one (Cs.sc kint)), (29, Ss.one (Cs.sl 2)), (30, Ss.one (Cs.sc kint)), (31, Ss.one (Cs.sc kint))] [Ss.one (Cs.any), Ss.one (Cs.any)])], fuel := 400, dr := noDr }
noncomputable def s_clLeft_t1 (g1 : Int → List (Int) → List (Int) → List (Int) → Bool → Int → Option (List Int)) (g2 : Int → List (Int) → List (Int) → List (Int) → Bool → Int → Int → Int → Option (List Int)) (b0_0 : Int) (r1 : List (Int)) (r2 : List (Int)) (r3 : List (Int)) (most1 : Bool) (step6 : Int) : Option (List Int) :=
  bif decide (step6 ≥ 0) then
    bif decide (0 ≤ step6) then
      bif decide (step6 < (↑(List.length r1) : Int)) then
        bif !s_clStands b0_0 r2 r3 step6 then g1 b0_0 (List.set r1 (Int.toNat step6) (-1)) r2 r3 most1 (IntKind.wrap IntKind.i64 (step6 - 1))
        else g2 b0_0 (List.set r1 (Int.toNat step6) (-1)) r2 r3 most1 step6 (↑(List.length r2) : Int) 0
      else none
    else none
  else some r1
noncomputable def s_clLeft_t2 (g1 : Int → List (Int) → List (Int) → List (Int) → Bool → Int → Option (List Int)) (g2 : Int → List (Int) → List (Int) → List (Int) → Bool → Int → Int → Int → Option (List Int)) (b0_0 : Int) (r1 : List (Int)) (r2 : List (Int)) (r3 : List (Int)) (most1 : Bool) (step6 : Int) (s30 : Int) (s31 : Int) : Option (List Int) :=
  bif decide (s31 < s30) then
    bif decide (0 ≤ s31) then
      bif decide (s31 < (↑(List.length r2) : Int)) then
        bif decide (IntKind.wrap IntKind.i64 (step6 + rdk kint r2 s31) > b0_0) then
          g2 b0_0 r1 r2 r3 most1 step6 s30 (IntKind.wrap IntKind.i64 (s31 + 1))
        else
          bif decide (0 ≤ IntKind.wrap IntKind.i64 (step6 + rdk kint r2 s31)) then
            bif decide (IntKind.wrap IntKind.i64 (step6 + rdk kint r2 s31) < (↑(List.length r1) : Int)) then
              bif decide (rdk kint r1 (IntKind.wrap IntKind.i64 (step6 + rdk kint r2 s31)) < 0) then
                g2 b0_0 r1 r2 r3 most1 step6 s30 (IntKind.wrap IntKind.i64 (s31 + 1))
              else
                bif decide (0 ≤ IntKind.wrap IntKind.i64 (step6 + rdk kint r2 s31)) then
                  bif decide (IntKind.wrap IntKind.i64 (step6 + rdk kint r2 s31) < (↑(List.length r1) : Int)) then
                    bif decide (0 ≤ step6) then
                      bif decide (step6 < (↑(List.length r1) : Int)) then
                        bif decide (rdk kint r1 step6 < 0) then
                          bif decide (0 ≤ step6) then
                            bif decide (step6 < (↑(List.length r1) : Int)) then
                              g2 b0_0
                                (List.set r1 (Int.toNat step6)
                                  (IntKind.wrap IntKind.i64
                                    (rdk kint r1 (IntKind.wrap IntKind.i64 (step6 + rdk kint r2 s31)) + 1)))
                                r2 r3 most1 step6 s30 (IntKind.wrap IntKind.i64 (s31 + 1))
                            else none
                          else none
                        else
                          bif !most1 then
                            bif decide (0 ≤ step6) then
                              bif decide (step6 < (↑(List.length r1) : Int)) then
                                bif
                                    decide
                                      (IntKind.wrap IntKind.i64
                                          (rdk kint r1 (IntKind.wrap IntKind.i64 (step6 + rdk kint r2 s31)) + 1) <
                                        rdk kint r1 step6) then
                                  bif decide (0 ≤ step6) then
                                    bif decide (step6 < (↑(List.length r1) : Int)) then
                                      g2 b0_0
                                        (List.set r1 (Int.toNat step6)
                                          (IntKind.wrap IntKind.i64
                                            (rdk kint r1 (IntKind.wrap IntKind.i64 (step6 + rdk kint r2 s31)) + 1)))
                                        r2 r3 most1 step6 s30 (IntKind.wrap IntKind.i64 (s31 + 1))
                                    else none
                                  else none
                                else
                                  bif most1 then
                                    bif decide (0 ≤ step6) then
                                      bif decide (step6 < (↑(List.length r1) : Int)) then
                                        bif
                                            decide
                                              (IntKind.wrap IntKind.i64
                                                  (rdk kint r1 (IntKind.wrap IntKind.i64 (step6 + rdk kint r2 s31)) + 1) >
                                                rdk kint r1 step6) then
                                          bif decide (0 ≤ step6) then
                                            bif decide (step6 < (↑(List.length r1) : Int)) then
                                              g2 b0_0
                                                (List.set r1 (Int.toNat step6)
                                                  (IntKind.wrap IntKind.i64
                                                    (rdk kint r1 (IntKind.wrap IntKind.i64 (step6 + rdk kint r2 s31)) + 1)))
                                                r2 r3 most1 step6 s30 (IntKind.wrap IntKind.i64 (s31 + 1))
                                            else none
                                          else none
                                        else g2 b0_0 r1 r2 r3 most1 step6 s30 (IntKind.wrap IntKind.i64 (s31 + 1))
                                      else none
                                    else none
                                  else g2 b0_0 r1 r2 r3 most1 step6 s30 (IntKind.wrap IntKind.i64 (s31 + 1))
                              else none
                            else none
                          else
                            bif most1 then
                              bif decide (0 ≤ step6) then
                                bif decide (step6 < (↑(List.length r1) : Int)) then
                                  bif
                                      decide
                                        (IntKind.wrap IntKind.i64
                                            (rdk kint r1 (IntKind.wrap IntKind.i64 (step6 + rdk kint r2 s31)) + 1) >
                                          rdk kint r1 step6) then
                                    bif decide (0 ≤ step6) then
                                      bif decide (step6 < (↑(List.length r1) : Int)) then
                                        g2 b0_0
                                          (List.set r1 (Int.toNat step6)
                                            (IntKind.wrap IntKind.i64
                                              (rdk kint r1 (IntKind.wrap IntKind.i64 (step6 + rdk kint r2 s31)) + 1)))
                                          r2 r3 most1 step6 s30 (IntKind.wrap IntKind.i64 (s31 + 1))
                                      else none
                                    else none
                                  else g2 b0_0 r1 r2 r3 most1 step6 s30 (IntKind.wrap IntKind.i64 (s31 + 1))
                                else none
                              else none
                            else g2 b0_0 r1 r2 r3 most1 step6 s30 (IntKind.wrap IntKind.i64 (s31 + 1))
                      else none
                    else none
                  else none
                else none
            else none
          else none
      else none
    else none
  else g1 b0_0 r1 r2 r3 most1 (IntKind.wrap IntKind.i64 (step6 - 1))
noncomputable def s_clLeft_t0 (g1 : Int → List (Int) → List (Int) → List (Int) → Bool → Int → Option (List Int)) (g2 : Int → List (Int) → List (Int) → List (Int) → Bool → Int → Int → Int → Option (List Int)) (s0_Steps : Int) (s0_Strides : List Int) (s0_Broken : List Int) (most1 : Bool) : Option (List Int) :=
  bif IntKind.wrap IntKind.i64 (s0_Steps + 1) == IntKind.wrap IntKind.i64 (s0_Steps + 1) then
    bif decide (0 ≤ IntKind.wrap IntKind.i64 (s0_Steps + 1)) then
      bif decide (IntKind.wrap IntKind.i64 (s0_Steps + 1) ≤ (↑4294967296 : Int)) then
        g1 s0_Steps (List.replicate (Int.toNat (IntKind.wrap IntKind.i64 (s0_Steps + 1))) (Kd.zero kint)) s0_Strides s0_Broken most1
          (IntKind.wrap IntKind.i64 (s0_Steps - 1))
      else none
    else none
  else none
theorem s_clLeft_ts : Tails c_s_clLeft.pts c_s_clLeft.round :=
  ⟨fun s => by
    obtain ⟨⟨⟨b0_0, _, _, _⟩, r1, r2, r3, _⟩, ⟨most1, _, _, step6, _⟩, ⟨_, _, _⟩⟩ := s
    refine Tail.eq (Y := fun g => s_clLeft_t1 (fun b0_0 r1 r2 r3 most1 step6 => g.1 (((b0_0, (), (), ()), r1, r2, r3, ()), (most1, (), (), step6, ()), ((), (), ()))) (fun b0_0 r1 r2 r3 most1 step6 s30 s31 => g.2.1 (((b0_0, (), (), ()), r1, r2, r3, ()), (most1, (), (), step6, (), s30, s31, ()), ((), (), ()))) b0_0 r1 r2 r3 most1 step6) ?_ (fun g => by kernel_rfl)
    simp only [s_clLeft_t1]; repeat (first | exact Tail.const _ | exact Tail.here _ | exact Tail.there (Tail.here _) | exact Tail.there (Tail.there (Tail.here _)) | exact Tail.there (Tail.there (Tail.there (Tail.here _))) | exact Tail.there (Tail.there (Tail.there (Tail.there (Tail.here _)))) | exact Tail.there (Tail.there (Tail.there (Tail.there (Tail.there (Tail.here _))))) | apply Tail.cond | (apply Tail.bind; intro _)),
  fun s => by
    obtain ⟨⟨⟨b0_0, _, _, _⟩, r1, r2, r3, _⟩, ⟨most1, _, _, step6, _, s30, s31, _⟩, ⟨_, _, _⟩⟩ := s
    refine Tail.eq (Y := fun g => s_clLeft_t2 (fun b0_0 r1 r2 r3 most1 step6 => g.1 (((b0_0, (), (), ()), r1, r2, r3, ()), (most1, (), (), step6, ()), ((), (), ()))) (fun b0_0 r1 r2 r3 most1 step6 s30 s31 => g.2.1 (((b0_0, (), (), ()), r1, r2, r3, ()), (most1, (), (), step6, (), s30, s31, ()), ((), (), ()))) b0_0 r1 r2 r3 most1 step6 s30 s31) ?_ (fun g => by kernel_rfl)
    simp only [s_clLeft_t2]; repeat (first | exact Tail.const _ | exact Tail.here _ | exact Tail.there (Tail.here _) | exact Tail.there (Tail.there (Tail.here _)) | exact Tail.there (Tail.there (Tail.there (Tail.here _))) | exact Tail.there (Tail.there (Tail.there (Tail.there (Tail.here _)))) | exact Tail.there (Tail.there (Tail.there (Tail.there (Tail.there (Tail.here _))))) | apply Tail.cond | (apply Tail.bind; intro _)), trivial⟩
theorem s_clLeft_hs : ∀ x, Tail c_s_clLeft.pts (fun g => c_s_clLeft.start g x) := fun x => by
    obtain ⟨⟨s0_Steps, s0_Strides, s0_Broken⟩, most1, _⟩ := x
    refine Tail.eq (Y := fun g => s_clLeft_t0 (fun b0_0 r1 r2 r3 most1 step6 => g.1 (((b0_0, (), (), ()), r1, r2, r3, ()), (most1, (), (), step6, ()), ((), (), ()))) (fun b0_0 r1 r2 r3 most1 step6 s30 s31 => g.2.1 (((b0_0, (), (), ()), r1, r2, r3, ()), (most1, (), (), step6, (), s30, s31, ()), ((), (), ()))) s0_Steps s0_Strides s0_Broken most1) ?_ (fun g => by kernel_rfl)
    simp only [s_clLeft_t0]; repeat (first | exact Tail.const _ | exact Tail.here _ | exact Tail.there (Tail.here _) | exact Tail.there (Tail.there (Tail.here _)) | exact Tail.there (Tail.there (Tail.there (Tail.here _))) | exact Tail.there (Tail.there (Tail.there (Tail.there (Tail.here _)))) | exact Tail.there (Tail.there (Tail.there (Tail.there (Tail.there (Tail.here _))))) | apply Tail.cond | (apply Tail.bind; intro _))
noncomputable def s_clLeft_L1 (b0_0 : Int) (r1 : List (Int)) (r2 : List (Int)) (r3 : List (Int)) (most1 : Bool) (step6 : Int) : Option (List Int) := c_s_clLeft.L.1 (((b0_0, (), (), ()), r1, r2, r3, ()), (most1, (), (), step6, ()), ((), (), ()))
noncomputable def s_clLeft_L2 (b0_0 : Int) (r1 : List (Int)) (r2 : List (Int)) (r3 : List (Int)) (most1 : Bool) (step6 : Int) (s30 : Int) (s31 : Int) : Option (List Int) := c_s_clLeft.L.2.1 (((b0_0, (), (), ()), r1, r2, r3, ()), (most1, (), (), step6, (), s30, s31, ()), ((), (), ()))
theorem s_clLeft_u1 (b0_0 : Int) (r1 : List (Int)) (r2 : List (Int)) (r3 : List (Int)) (most1 : Bool) (step6 : Int) : s_clLeft_L1 b0_0 r1 r2 r3 most1 step6 = s_clLeft_t1 s_clLeft_L1 s_clLeft_L2 b0_0 r1 r2 r3 most1 step6 :=
  (congrArg (fun g => g.1 (((b0_0, (), (), ()), r1, r2, r3, ()), (most1, (), (), step6, ()), ((), (), ()))) (FnCx.L_eq s_clLeft_ts)).trans (by kernel_rfl)
theorem s_clLeft_u2 (b0_0 : Int) (r1 : List (Int)) (r2 : List (Int)) (r3 : List (Int)) (most1 : Bool) (step6 : Int) (s30 : Int) (s31 : Int) : s_clLeft_L2 b0_0 r1 r2 r3 most1 step6 s30 s31 = s_clLeft_t2 s_clLeft_L1 s_clLeft_L2 b0_0 r1 r2 r3 most1 step6 s30 s31 :=
  (congrArg (fun g => g.2.1 (((b0_0, (), (), ()), r1, r2, r3, ()), (most1, (), (), step6, (), s30, s31, ()), ((), (), ()))) (FnCx.L_eq s_clLeft_ts)).trans (by kernel_rfl)
noncomputable def s_clLeft (s0_Steps : Int) (s0_Strides : List Int) (s0_Broken : List Int) (most1 : Bool) : Option (List Int) := s_clLeft_t0 s_clLeft_L1 s_clLeft_L2 s0_Steps s0_Strides s0_Broken most1
theorem s_clLeft_e (s0_Steps : Int) (s0_Strides : List Int) (s0_Broken : List Int) (most1 : Bool) : c_s_clLeft.start c_s_clLeft.L ((s0_Steps, s0_Strides, s0_Broken), most1, ()) = s_clLeft s0_Steps s0_Strides s0_Broken most1 := by kernel_rfl
noncomputable def F_s_clLeft : Ins c_s_clLeft.ins → Option (List Int) := fun x => s_clLeft x.1.1 x.1.2.1 x.1.2.2 x.2.1
noncomputable def S_s_clLeft : FSpec := mkF c_s_clLeft.env.pre c_s_clLeft.ins c_s_clLeft.out c_s_clLeft.inj F_s_clLeft
theorem h_s_clLeft : Cert Try.prog 251 S_s_clLeft := FnCx.certF (c := c_s_clLeft) F_s_clLeft (tyOk _ _ _) (spOk ⟨h_s_clStands, fun _ _ _ => trivial, trivial⟩) (fun _ _ _ _ _ hs => noDr_ok) Try.func251 rfl rfl Try.ntmps251 (by kernel_rfl) rfl rfl (fun _ => rfl) s_clLeft_ts s_clLeft_hs (fun x t hb ht => by
  obtain ⟨⟨s0_Steps, s0_Strides, s0_Broken⟩, most1, _⟩ := x
  exact (s_clLeft_e s0_Steps s0_Strides s0_Broken most1).trans ht)
/-! spec.FewestStrides -/
noncomputable def c_s_FewestStrides : FnCx := { env := env 18 [(247, S_s_clGood), (251, S_s_clLeft)] [], body := bodyOf Try.f136, res := [.tmp 2, .tmp 3], ins := [.ro kStairs], out := [(kint, true), (kbool, true)], T := Int × Bool, fin := fun r => (r.1.1, r.1.2.1), inj := fun t => ((t.1, t.2, ()), ((), ())), pts := [], fuel := 400, dr := noDr }
noncomputable def s_FewestStrides (s0_Steps : Int) (s0_Strides : List Int) (s0_Broken : List Int) : Option (Int × Bool) :=
  bif !s_clGood s0_Steps s0_Strides s0_Broken then some (0, false)
  else
    Option.bind (s_clLeft s0_Steps s0_Strides s0_Broken false) fun r =>
      bif decide (0 < (↑(List.length r) : Int)) then
        bif decide (rdk kint r 0 < 0) then some (0, false)
        else
          Option.bind (s_clLeft s0_Steps s0_Strides s0_Broken false) fun r =>
            bif decide (0 < (↑(List.length r) : Int)) then some (rdk kint r 0, true) else none
      else none
theorem s_FewestStrides_e (s0_Steps : Int) (s0_Strides : List Int) (s0_Broken : List Int) : c_s_FewestStrides.start c_s_FewestStrides.L ((s0_Steps, s0_Strides, s0_Broken), ()) = s_FewestStrides s0_Steps s0_Strides s0_Broken := by kernel_rfl
noncomputable def F_s_FewestStrides : Ins c_s_FewestStrides.ins → Option (Int × Bool) := fun x => s_FewestStrides x.1.1 x.1.2.1 x.1.2.2
noncomputable def S_s_FewestStrides : FSpec := mkF c_s_FewestStrides.env.pre c_s_FewestStrides.ins c_s_FewestStrides.out c_s_FewestStrides.inj F_s_FewestStrides
theorem h_s_FewestStrides : Cert Try.prog 136 S_s_FewestStrides := FnCx.certF (c := c_s_FewestStrides) F_s_FewestStrides (tyOk _ _ _) (spOk ⟨h_s_clGood, fun _ _ _ => trivial, ⟨h_s_clLeft, fun _ _ _ => trivial, trivial⟩⟩) (fun _ _ _ _ _ hs => noDr_ok) Try.func136 rfl rfl Try.ntmps136 (by kernel_rfl) rfl rfl (fun _ => rfl) trivial (fun x => .inl ⟨c_s_FewestStrides.start () x, fun _ => rfl⟩) (fun x t hb ht => by
  obtain ⟨⟨s0_Steps, s0_Strides, s0_Broken⟩, _⟩ := x
  exact (s_FewestStrides_e s0_Steps s0_Strides s0_Broken).trans ht)
/-! impl.MostStrides -/
noncomputable def c_i_MostStrides : FnCx := { env := env 25 [(245, S_i_AreStairs), (249, S_i_Stairs_byStrides)] [], body := bodyOf Try.f137, res := [.tmp 2, .tmp 3], ins := [.ro kStairs], out := [(kint, true), (kbool, true)], T := Int × Bool, fin := fun r => (r.1.1, r.1.2.1), inj := fun t => ((t.1, t.2, ()), ((), ())), pts := [([.inLoop [1, 1, 1, 0, 1, 0, 0], .inBlock 0, .code [1, 1, 1, 1]], Shape.mk [Bs.row kint 3 true] [(4, Ss.one (Cs.sc kint)), (11, Ss.one (Cs.sl 0)), (12, Ss.one (Cs.sc kint)), (13, Ss.one (Cs.sc kint))] [Ss.one (Cs.any)])], fuel := 400, dr := noDr }
noncomputable def i_MostStrides_t1 (g1 : List (Int) → Int → Int → Int → Option (Int × Bool)) (r0 : List (Int)) (best4 : Int) (s12 : Int) (s13 : Int) : Option (Int × Bool) :=
  bif decide (s13 < s12) then
    bif decide (0 ≤ s13) then
      bif decide (s13 < (↑(List.length r0) : Int)) then
        bif decide (rdk kint r0 s13 > 0) then g1 r0 s13 s12 (IntKind.wrap IntKind.i64 (s13 + 1))
        else g1 r0 best4 s12 (IntKind.wrap IntKind.i64 (s13 + 1))
      else none
    else none
  else bif decide (best4 < 0) then some (0, false) else some (best4, true)
noncomputable def i_MostStrides_t0 (g1 : List (Int) → Int → Int → Int → Option (Int × Bool)) (s0_Steps : Int) (s0_Strides : List Int) (s0_Broken : List Int) : Option (Int × Bool) :=
  bif !i_AreStairs s0_Steps s0_Strides s0_Broken then some (0, false)
  else Option.bind (i_Stairs_byStrides s0_Steps s0_Strides s0_Broken) fun r => g1 r (-1) (↑(List.length r) : Int) 0
theorem i_MostStrides_ts : Tails c_i_MostStrides.pts c_i_MostStrides.round :=
  ⟨fun s => by
    obtain ⟨⟨r0, _⟩, ⟨best4, _, s12, s13, _⟩, ⟨_, _⟩⟩ := s
    refine Tail.eq (Y := fun g => i_MostStrides_t1 (fun r0 best4 s12 s13 => g.1 ((r0, ()), (best4, (), s12, s13, ()), ((), ()))) r0 best4 s12 s13) ?_ (fun g => by kernel_rfl)
    simp only [i_MostStrides_t1]; repeat (first | exact Tail.const _ | exact Tail.here _ | exact Tail.there (Tail.here _) | exact Tail.there (Tail.there (Tail.here _)) | exact Tail.there (Tail.there (Tail.there (Tail.here _))) | exact Tail.there (Tail.there (Tail.there (Tail.there (Tail.here _)))) | exact Tail.there (Tail.there (Tail.there (Tail.there (Tail.there (Tail.here _))))) | apply Tail.cond | (apply Tail.bind; intro _)), trivial⟩
theorem i_MostStrides_hs : ∀ x, Tail c_i_MostStrides.pts (fun g => c_i_MostStrides.start g x) := fun x => by
    obtain ⟨⟨s0_Steps, s0_Strides, s0_Broken⟩, _⟩ := x
    refine Tail.eq (Y := fun g => i_MostStrides_t0 (fun r0 best4 s12 s13 => g.1 ((r0, ()), (best4, (), s12, s13, ()), ((), ()))) s0_Steps s0_Strides s0_Broken) ?_ (fun g => by kernel_rfl)
    simp only [i_MostStrides_t0]; repeat (first | exact Tail.const _ | exact Tail.here _ | exact Tail.there (Tail.here _) | exact Tail.there (Tail.there (Tail.here _)) | exact Tail.there (Tail.there (Tail.there (Tail.here _))) | exact Tail.there (Tail.there (Tail.there (Tail.there (Tail.here _)))) | exact Tail.there (Tail.there (Tail.there (Tail.there (Tail.there (Tail.here _))))) | apply Tail.cond | (apply Tail.bind; intro _))
noncomputable def i_MostStrides_L1 (r0 : List (Int)) (best4 : Int) (s12 : Int) (s13 : Int) : Option (Int × Bool) := c_i_MostStrides.L.1 ((r0, ()), (best4, (), s12, s13, ()), ((), ()))
theorem i_MostStrides_u1 (r0 : List (Int)) (best4 : Int) (s12 : Int) (s13 : Int) : i_MostStrides_L1 r0 best4 s12 s13 = i_MostStrides_t1 i_MostStrides_L1 r0 best4 s12 s13 :=
  (congrArg (fun g => g.1 ((r0, ()), (best4, (), s12, s13, ()), ((), ()))) (FnCx.L_eq i_MostStrides_ts)).trans (by kernel_rfl)
noncomputable def i_MostStrides (s0_Steps : Int) (s0_Strides : List Int) (s0_Broken : List Int) : Option (Int × Bool) := i_MostStrides_t0 i_MostStrides_L1 s0_Steps s0_Strides s0_Broken
theorem i_MostStrides_e (s0_Steps : Int) (s0_Strides : List Int) (s0_Broken : List Int) : c_i_MostStrides.start c_i_MostStrides.L ((s0_Steps, s0_Strides, s0_Broken), ()) = i_MostStrides s0_Steps s0_Strides s0_Broken := by kernel_rfl
noncomputable def F_i_MostStrides : Ins c_i_MostStrides.ins → Option (Int × Bool) := fun x => i_MostStrides x.1.1 x.1.2.1 x.1.2.2
noncomputable def S_i_MostStrides : FSpec := mkF c_i_MostStrides.env.pre c_i_MostStrides.ins c_i_MostStrides.out c_i_MostStrides.inj F_i_MostStrides
theorem h_i_MostStrides : Cert Try.prog 137 S_i_MostStrides := FnCx.certF (c := c_i_MostStrides) F_i_MostStrides (tyOk _ _ _) (spOk ⟨h_i_AreStairs, fun _ _ _ => trivial, ⟨h_i_Stairs_byStrides, fun _ _ _ => trivial, trivial⟩⟩) (fun _ _ _ _ _ hs => noDr_ok) Try.func137 rfl rfl Try.ntmps137 (by kernel_rfl) rfl rfl (fun _ => rfl) i_MostStrides_ts i_MostStrides_hs (fun x t hb ht => by
  obtain ⟨⟨s0_Steps, s0_Strides, s0_Broken⟩, _⟩ := x
  exact (i_MostStrides_e s0_Steps s0_Strides s0_Broken).trans ht)
/-! spec.MostStrides -/
noncomputable def c_s_MostStrides : FnCx := { env := env 18 [(247, S_s_clGood), (251, S_s_clLeft)] [], body := bodyOf Try.f138, res := [.tmp 2, .tmp 3], ins := [.ro kStairs], out := [(kint, true), (kbool, true)], T := Int × Bool, fin := fun r => (r.1.1, r.1.2.1), inj := fun t => ((t.1, t.2, ()), ((), ())), pts := [], fuel := 400, dr := noDr }
noncomputable def s_MostStrides (s0_Steps : Int) (s0_Strides : List Int) (s0_Broken : List Int) : Option (Int × Bool) :=
  bif !s_clGood s0_Steps s0_Strides s0_Broken then some (0, false)
  else
    Option.bind (s_clLeft s0_Steps s0_Strides s0_Broken true) fun r =>
      bif decide (0 < (↑(List.length r) : Int)) then
        bif decide (rdk kint r 0 < 0) then some (0, false)
        else
          Option.bind (s_clLeft s0_Steps s0_Strides s0_Broken true) fun r =>
            bif decide (0 < (↑(List.length r) : Int)) then some (rdk kint r 0, true) else none
      else none
theorem s_MostStrides_e (s0_Steps : Int) (s0_Strides : List Int) (s0_Broken : List Int) : c_s_MostStrides.start c_s_MostStrides.L ((s0_Steps, s0_Strides, s0_Broken), ()) = s_MostStrides s0_Steps s0_Strides s0_Broken := by kernel_rfl
noncomputable def F_s_MostStrides : Ins c_s_MostStrides.ins → Option (Int × Bool) := fun x => s_MostStrides x.1.1 x.1.2.1 x.1.2.2
noncomputable def S_s_MostStrides : FSpec := mkF c_s_MostStrides.env.pre c_s_MostStrides.ins c_s_MostStrides.out c_s_MostStrides.inj F_s_MostStrides
theorem h_s_MostStrides : Cert Try.prog 138 S_s_MostStrides := FnCx.certF (c := c_s_MostStrides) F_s_MostStrides (tyOk _ _ _) (spOk ⟨h_s_clGood, fun _ _ _ => trivial, ⟨h_s_clLeft, fun _ _ _ => trivial, trivial⟩⟩) (fun _ _ _ _ _ hs => noDr_ok) Try.func138 rfl rfl Try.ntmps138 (by kernel_rfl) rfl rfl (fun _ => rfl) trivial (fun x => .inl ⟨c_s_MostStrides.start () x, fun _ => rfl⟩) (fun x t hb ht => by
  obtain ⟨⟨s0_Steps, s0_Strides, s0_Broken⟩, _⟩ := x
  exact (s_MostStrides_e s0_Steps s0_Strides s0_Broken).trans ht)
/-! (impl.Stairs).isClimb -/
noncomputable def c_i_Stairs_isClimb : FnCx := { env := env 36 [(216, S_slices_Contains_int), (252, S_i_Stairs_isBroken)] [], body := bodyOf Try.f253, res := [.tmp 4], ins := [.ro kStairs, .ro kSint], out := [(kbool, true)], T := Bool, fin := fun r => r.1.1, inj := fun t => ((t, ()), ((), (), ())), pts := [([.inLoop [1, 1, 0, 1, 0, 0], .inBlock 0, .code [1, 1, 1]], Shape.mk [Bs.box 96 [Cs.sc kint, Cs.sl 2, Cs.sl 3], Bs.row kint 3 false, Bs.row kint 3 false, Bs.row kint 3 false] [(2, Ss.one (Cs.ptr 0 0)), (5, Ss.one (Cs.sc kint)), (8, Ss.one (Cs.sl 1)), (9, Ss.one (Cs.sc kint)), (10, Ss.one (Cs.sc kint))] [Ss.one (Cs.any), Ss.one (Cs.any)])], fuel := 400, dr := noDr }
noncomputable def i_Stairs_isClimb_t1 (g1 : Int → List (Int) → List (Int) → List (Int) → Int → Int → Int → Option (Bool)) (b0_0 : Int) (r1 : List (Int)) (r2 : List (Int)) (r3 : List (Int)) (at5 : Int) (s9 : Int) (s10 : Int) : Option Bool :=
  bif decide (s10 < s9) then
    bif decide (0 ≤ s10) then
      bif decide (s10 < (↑(List.length r1) : Int)) then
        bif !slices_Contains_int r2 (rdk kint r1 s10) then some false
        else
          bif decide (IntKind.wrap IntKind.i64 (at5 + rdk kint r1 s10) > b0_0) then some false
          else
            bif i_Stairs_isBroken b0_0 r2 r3 (IntKind.wrap IntKind.i64 (at5 + rdk kint r1 s10)) then some false
            else g1 b0_0 r1 r2 r3 (IntKind.wrap IntKind.i64 (at5 + rdk kint r1 s10)) s9 (IntKind.wrap IntKind.i64 (s10 + 1))
      else none
    else none
  else some (at5 == b0_0)
noncomputable def i_Stairs_isClimb_t0 (g1 : Int → List (Int) → List (Int) → List (Int) → Int → Int → Int → Option (Bool)) (s0_Steps : Int) (s0_Strides : List Int) (s0_Broken : List Int) (climb1 : List Int) : Option Bool :=
  g1 s0_Steps climb1 s0_Strides s0_Broken 0 (↑(List.length climb1) : Int) 0
theorem i_Stairs_isClimb_ts : Tails c_i_Stairs_isClimb.pts c_i_Stairs_isClimb.round :=
  ⟨fun s => by
    obtain ⟨⟨⟨b0_0, _, _, _⟩, r1, r2, r3, _⟩, ⟨_, at5, _, s9, s10, _⟩, ⟨_, _, _⟩⟩ := s
    refine Tail.eq (Y := fun g => i_Stairs_isClimb_t1 (fun b0_0 r1 r2 r3 at5 s9 s10 => g.1 (((b0_0, (), (), ()), r1, r2, r3, ()), ((), at5, (), s9, s10, ()), ((), (), ()))) b0_0 r1 r2 r3 at5 s9 s10) ?_ (fun g => by kernel_rfl)
    simp only [i_Stairs_isClimb_t1]; repeat (first | exact Tail.const _ | exact Tail.here _ | exact Tail.there (Tail.here _) | exact Tail.there (Tail.there (Tail.here _)) | exact Tail.there (Tail.there (Tail.there (Tail.here _))) | exact Tail.there (Tail.there (Tail.there (Tail.there (Tail.here _)))) | exact Tail.there (Tail.there (Tail.there (Tail.there (Tail.there (Tail.here _))))) | apply Tail.cond | (apply Tail.bind; intro _)), trivial⟩
theorem i_Stairs_isClimb_hs : ∀ x, Tail c_i_Stairs_isClimb.pts (fun g => c_i_Stairs_isClimb.start g x) := fun x => by
    obtain ⟨⟨s0_Steps, s0_Strides, s0_Broken⟩, climb1, _⟩ := x
    refine Tail.eq (Y := fun g => i_Stairs_isClimb_t0 (fun b0_0 r1 r2 r3 at5 s9 s10 => g.1 (((b0_0, (), (), ()), r1, r2, r3, ()), ((), at5, (), s9, s10, ()), ((), (), ()))) s0_Steps s0_Strides s0_Broken climb1) ?_ (fun g => by kernel_rfl)
    simp only [i_Stairs_isClimb_t0]; repeat (first | exact Tail.const _ | exact Tail.here _ | exact Tail.there (Tail.here _) | exact Tail.there (Tail.there (Tail.here _)) | exact Tail.there (Tail.there (Tail.there (Tail.here _))) | exact Tail.there (Tail.there (Tail.there (Tail.there (Tail.here _)))) | exact Tail.there (Tail.there (Tail.there (Tail.there (Tail.there (Tail.here _))))) | apply Tail.cond | (apply Tail.bind; intro _))
noncomputable def i_Stairs_isClimb_L1 (b0_0 : Int) (r1 : List (Int)) (r2 : List (Int)) (r3 : List (Int)) (at5 : Int) (s9 : Int) (s10 : Int) : Option Bool := c_i_Stairs_isClimb.L.1 (((b0_0, (), (), ()), r1, r2, r3, ()), ((), at5, (), s9, s10, ()), ((), (), ()))
theorem i_Stairs_isClimb_u1 (b0_0 : Int) (r1 : List (Int)) (r2 : List (Int)) (r3 : List (Int)) (at5 : Int) (s9 : Int) (s10 : Int) : i_Stairs_isClimb_L1 b0_0 r1 r2 r3 at5 s9 s10 = i_Stairs_isClimb_t1 i_Stairs_isClimb_L1 b0_0 r1 r2 r3 at5 s9 s10 :=
  (congrArg (fun g => g.1 (((b0_0, (), (), ()), r1, r2, r3, ()), ((), at5, (), s9, s10, ()), ((), (), ()))) (FnCx.L_eq i_Stairs_isClimb_ts)).trans (by kernel_rfl)
noncomputable def i_Stairs_isClimb (s0_Steps : Int) (s0_Strides : List Int) (s0_Broken : List Int) (climb1 : List Int) : Option Bool := i_Stairs_isClimb_t0 i_Stairs_isClimb_L1 s0_Steps s0_Strides s0_Broken climb1
theorem i_Stairs_isClimb_e (s0_Steps : Int) (s0_Strides : List Int) (s0_Broken : List Int) (climb1 : List Int) : c_i_Stairs_isClimb.start c_i_Stairs_isClimb.L ((s0_Steps, s0_Strides, s0_Broken), climb1, ()) = i_Stairs_isClimb s0_Steps s0_Strides s0_Broken climb1 := by kernel_rfl
noncomputable def F_i_Stairs_isClimb : Ins c_i_Stairs_isClimb.ins → Option Bool := fun x => i_Stairs_isClimb x.1.1 x.1.2.1 x.1.2.2 x.2.1
noncomputable def S_i_Stairs_isClimb : FSpec := mkF c_i_Stairs_isClimb.env.pre c_i_Stairs_isClimb.ins c_i_Stairs_isClimb.out c_i_Stairs_isClimb.inj F_i_Stairs_isClimb
theorem h_i_Stairs_isClimb : Cert Try.prog 253 S_i_Stairs_isClimb := FnCx.certF (c := c_i_Stairs_isClimb) F_i_Stairs_isClimb (tyOk _ _ _) (spOk ⟨h_slices_Contains_int, fun _ _ _ => trivial, ⟨h_i_Stairs_isBroken, fun _ _ _ => trivial, trivial⟩⟩) (fun _ _ _ _ _ hs => noDr_ok) Try.func253 rfl rfl Try.ntmps253 (by kernel_rfl) rfl rfl (fun _ => rfl) i_Stairs_isClimb_ts i_Stairs_isClimb_hs (fun x t hb ht => by
  obtain ⟨⟨s0_Steps, s0_Strides, s0_Broken⟩, climb1, _⟩ := x
  exact (i_Stairs_isClimb_e s0_Steps s0_Strides s0_Broken climb1).trans ht)
/-! impl.IsClimb -/
noncomputable def c_i_IsClimb : FnCx := { env := env 12 [(245, S_i_AreStairs), (253, S_i_Stairs_isClimb)] [], body := bodyOf Try.f141, res := [.tmp 4, .tmp 5], ins := [.ro kStairs, .ro kSint], out := [(kbool, true), (kbool, true)], T := Bool × Bool, fin := fun r => (r.1.1, r.1.2.1), inj := fun t => ((t.1, t.2, ()), ((), (), ())), pts := [], fuel := 400, dr := noDr }
noncomputable def i_IsClimb (s0_Steps : Int) (s0_Strides : List Int) (s0_Broken : List Int) (climb1 : List Int) : Option (Bool × Bool) :=
  bif !i_AreStairs s0_Steps s0_Strides s0_Broken then some (false, false)
  else Option.bind (i_Stairs_isClimb s0_Steps s0_Strides s0_Broken climb1) fun r => some (r, true)
theorem i_IsClimb_e (s0_Steps : Int) (s0_Strides : List Int) (s0_Broken : List Int) (climb1 : List Int) : c_i_IsClimb.start c_i_IsClimb.L ((s0_Steps, s0_Strides, s0_Broken), climb1, ()) = i_IsClimb s0_Steps s0_Strides s0_Broken climb1 := by kernel_rfl
noncomputable def F_i_IsClimb : Ins c_i_IsClimb.ins → Option (Bool × Bool) := fun x => i_IsClimb x.1.1 x.1.2.1 x.1.2.2 x.2.1
noncomputable def S_i_IsClimb : FSpec := mkF c_i_IsClimb.env.pre c_i_IsClimb.ins c_i_IsClimb.out c_i_IsClimb.inj F_i_IsClimb
theorem h_i_IsClimb : Cert Try.prog 141 S_i_IsClimb := FnCx.certF (c := c_i_IsClimb) F_i_IsClimb (tyOk _ _ _) (spOk ⟨h_i_AreStairs, fun _ _ _ => trivial, ⟨h_i_Stairs_isClimb, fun _ _ _ => trivial, trivial⟩⟩) (fun _ _ _ _ _ hs => noDr_ok) Try.func141 rfl rfl Try.ntmps141 (by kernel_rfl) rfl rfl (fun _ => rfl) trivial (fun x => .inl ⟨c_i_IsClimb.start () x, fun _ => rfl⟩) (fun x t hb ht => by
  obtain ⟨⟨s0_Steps, s0_Strides, s0_Broken⟩, climb1, _⟩ := x
  exact (i_IsClimb_e s0_Steps s0_Strides s0_Broken climb1).trans ht)
/-! impl.RankOfClimb -/
noncomputable def c_i_RankOfClimb : FnCx := { env := env 65 [(241, S_i_counted), (253, S_i_Stairs_isClimb)] [], body := bodyOf Try.f142, res := [.tmp 4, .tmp 5], ins := [.ro kStairs, .ro kSint], out := [(kint, true), (kbool, true)], T := Int × Bool, fin := fun r => (r.1.1, r.1.2.1), inj := fun t => ((t.1, t.2, ()), ((), (), ())), pts := [([.inLoop [1, 1, 1, 1, 0, 1, 0, 0], .inBlock 0, .code [1, 1, 1, 1, 1]], Shape.mk [Bs.box 96 [Cs.sc kint, Cs.sl 3, Cs.sl 4], Bs.row kint 3 true, Bs.row kint 3 false, Bs.row kint 3 false, Bs.row kint 3 false] [(2, Ss.one (Cs.ptr 0 0)), (6, Ss.one (Cs.sl 1)), (8, Ss.one (Cs.sc kint)), (9, Ss.one (Cs.sc kint)), (27, Ss.one (Cs.sl 2)), (28, Ss.one (Cs.sc kint)), (29, Ss.one (Cs.sc kint))] [Ss.one (Cs.any), Ss.one (Cs.any)]), ([.inLoop [1, 1, 1, 1, 0, 1, 0, 0, 1, 1, 0, 0, 1, 0, 1, 0, 0], .inBlock 2, .code [1, 1, 1, 1, 0, 1, 0, 0, 1, 1, 0, 0, 1, 1], .inBlock 1, .code [1, 1, 1, 1, 0, 1, 0, 0, 1, 1, 1], .inLoop [1, 1, 1, 1, 0, 1, 0, 0], .inBlock 0, .code [1, 1, 1, 1, 1]], Shape.mk [Bs.box 96 [Cs.sc kint, Cs.sl 3, Cs.sl 4], Bs.row kint 3 true, Bs.row kint 3 false, Bs.row kint 3 false, Bs.row kint 3 false] [(2, Ss.one (Cs.ptr 0 0)), (6, Ss.one (Cs.sl 1)), (8, Ss.one (Cs.sc kint)), (9, Ss.one (Cs.sc kint)), (11, Ss.one (Cs.sc kint)), (27, Ss.one (Cs.sl 2)), (28, Ss.one (Cs.sc kint)), (29, Ss.one (Cs.sc kint)), (34, Ss.one (Cs.sl 3)), (35, Ss.one (Cs.sc kint)), (36, Ss.one (Cs.sc kint))] [Ss.one (Cs.any), Ss.one (Cs.any)])], fuel := 400, dr := noDr }
noncomputable def i_RankOfClimb_t1 (g1 : Int → List (Int) → List (Int) → List (Int) → List (Int) → Int → Int → Int → Int → Option (Int × Bool)) (g2 : Int → List (Int) → List (Int) → List (Int) → List (Int) → Int → Int → Int → Int → Int → Int → Int → Option (Int × Bool)) (b0_0 : Int) (r1 : List (Int)) (r2 : List (Int)) (r3 : List (Int)) (r4 : List (Int)) (rank8 : Int) (at9 : Int) (s28 : Int) (s29 : Int) : Option (Int × Bool) :=
  bif decide (s29 < s28) then
    bif decide (0 ≤ s29) then
      bif decide (s29 < (↑(List.length r2) : Int)) then g2 b0_0 r1 r2 r3 r4 rank8 at9 (rdk kint r2 s29) s28 s29 (↑(List.length r3) : Int) 0
      else none
    else none
  else some (rank8, true)
noncomputable def i_RankOfClimb_t2 (g1 : Int → List (Int) → List (Int) → List (Int) → List (Int) → Int → Int → Int → Int → Option (Int × Bool)) (g2 : Int → List (Int) → List (Int) → List (Int) → List (Int) → Int → Int → Int → Int → Int → Int → Int → Option (Int × Bool)) (b0_0 : Int) (r1 : List (Int)) (r2 : List (Int)) (r3 : List (Int)) (r4 : List (Int)) (rank8 : Int) (at9 : Int) (own11 : Int) (s28 : Int) (s29 : Int) (s35 : Int) (s36 : Int) : Option (Int × Bool) :=
  bif decide (s36 < s35) then
    bif decide (0 ≤ s36) then
      bif decide (s36 < (↑(List.length r3) : Int)) then
        bif decide (rdk kint r3 s36 < own11) then
          bif decide (IntKind.wrap IntKind.i64 (at9 + rdk kint r3 s36) ≤ b0_0) then
            bif decide (0 ≤ IntKind.wrap IntKind.i64 (at9 + rdk kint r3 s36)) then
              bif decide (IntKind.wrap IntKind.i64 (at9 + rdk kint r3 s36) < (↑(List.length r1) : Int)) then
                g2 b0_0 r1 r2 r3 r4
                  (IntKind.wrap IntKind.i64 (rank8 + rdk kint r1 (IntKind.wrap IntKind.i64 (at9 + rdk kint r3 s36)))) at9 own11
                  s28 s29 s35 (IntKind.wrap IntKind.i64 (s36 + 1))
              else none
            else none
          else g2 b0_0 r1 r2 r3 r4 rank8 at9 own11 s28 s29 s35 (IntKind.wrap IntKind.i64 (s36 + 1))
        else g2 b0_0 r1 r2 r3 r4 rank8 at9 own11 s28 s29 s35 (IntKind.wrap IntKind.i64 (s36 + 1))
      else none
    else none
  else g1 b0_0 r1 r2 r3 r4 rank8 (IntKind.wrap IntKind.i64 (at9 + own11)) s28 (IntKind.wrap IntKind.i64 (s29 + 1))
noncomputable def i_RankOfClimb_t0 (g1 : Int → List (Int) → List (Int) → List (Int) → List (Int) → Int → Int → Int → Int → Option (Int × Bool)) (g2 : Int → List (Int) → List (Int) → List (Int) → List (Int) → Int → Int → Int → Int → Int → Int → Int → Option (Int × Bool)) (s0_Steps : Int) (s0_Strides : List Int) (s0_Broken : List Int) (climb1 : List Int) : Option (Int × Bool) :=
  Option.bind (i_counted s0_Steps s0_Strides s0_Broken) fun r =>
    bif !Prod.snd r then some (0, false)
    else
      Option.bind (i_Stairs_isClimb s0_Steps s0_Strides s0_Broken climb1) fun r_1 =>
        bif !r_1 then some (0, false) else g1 s0_Steps (Prod.fst r) climb1 s0_Strides s0_Broken 0 0 (↑(List.length climb1) : Int) 0
theorem i_RankOfClimb_ts : Tails c_i_RankOfClimb.pts c_i_RankOfClimb.round :=
  ⟨fun s => by
    obtain ⟨⟨⟨b0_0, _, _, _⟩, r1, r2, r3, r4, _⟩, ⟨_, _, rank8, at9, _, s28, s29, _⟩, ⟨_, _, _⟩⟩ := s
    refine Tail.eq (Y := fun g => i_RankOfClimb_t1 (fun b0_0 r1 r2 r3 r4 rank8 at9 s28 s29 => g.1 (((b0_0, (), (), ()), r1, r2, r3, r4, ()), ((), (), rank8, at9, (), s28, s29, ()), ((), (), ()))) (fun b0_0 r1 r2 r3 r4 rank8 at9 own11 s28 s29 s35 s36 => g.2.1 (((b0_0, (), (), ()), r1, r2, r3, r4, ()), ((), (), rank8, at9, own11, (), s28, s29, (), s35, s36, ()), ((), (), ()))) b0_0 r1 r2 r3 r4 rank8 at9 s28 s29) ?_ (fun g => by kernel_rfl)
    simp only [i_RankOfClimb_t1]; repeat (first | exact Tail.const _ | exact Tail.here _ | exact Tail.there (Tail.here _) | exact Tail.there (Tail.there (Tail.here _)) | exact Tail.there (Tail.there (Tail.there (Tail.here _))) | exact Tail.there (Tail.there (Tail.there (Tail.there (Tail.here _)))) | exact Tail.there (Tail.there (Tail.there (Tail.there (Tail.there (Tail.here _))))) | apply Tail.cond | (apply Tail.bind; intro _)),
  fun s => by
    obtain ⟨⟨⟨b0_0, _, _, _⟩, r1, r2, r3, r4, _⟩, ⟨_, _, rank8, at9, own11, _, s28, s29, _, s35, s36, _⟩, ⟨_, _, _⟩⟩ := s
    refine Tail.eq (Y := fun g => i_RankOfClimb_t2 (fun b0_0 r1 r2 r3 r4 rank8 at9 s28 s29 => g.1 (((b0_0, (), (), ()), r1, r2, r3, r4, ()), ((), (), rank8, at9, (), s28, s29, ()), ((), (), ()))) (fun b0_0 r1 r2 r3 r4 rank8 at9 own11 s28 s29 s35 s36 => g.2.1 (((b0_0, (), (), ()), r1, r2, r3, r4, ()), ((), (), rank8, at9, own11, (), s28, s29, (), s35, s36, ()), ((), (), ()))) b0_0 r1 r2 r3 r4 rank8 at9 own11 s28 s29 s35 s36) ?_ (fun g => by kernel_rfl)
    simp only [i_RankOfClimb_t2]; repeat (first | exact Tail.const _ | exact Tail.here _ | exact Tail.there (Tail.here _) | exact Tail.there (Tail.there (Tail.here _)) | exact Tail.there (Tail.there (Tail.there (Tail.here _))) | exact Tail.there (Tail.there (Tail.there (Tail.there (Tail.here _)))) | exact Tail.there (Tail.there (Tail.there (Tail.there (Tail.there (Tail.here _))))) | apply Tail.cond | (apply Tail.bind; intro _)), trivial⟩
theorem i_RankOfClimb_hs : ∀ x, Tail c_i_RankOfClimb.pts (fun g => c_i_RankOfClimb.start g x) := fun x => by
    obtain ⟨⟨s0_Steps, s0_Strides, s0_Broken⟩, climb1, _⟩ := x
    refine Tail.eq (Y := fun g => i_RankOfClimb_t0 (fun b0_0 r1 r2 r3 r4 rank8 at9 s28 s29 => g.1 (((b0_0, (), (), ()), r1, r2, r3, r4, ()), ((), (), rank8, at9, (), s28, s29, ()), ((), (), ()))) (fun b0_0 r1 r2 r3 r4 rank8 at9 own11 s28 s29 s35 s36 => g.2.1 (((b0_0, (), (), ()), r1, r2, r3, r4, ()), ((), (), rank8, at9, own11, (), s28, s29, (), s35, s36, ()), ((), (), ()))) s0_Steps s0_Strides s0_Broken climb1) ?_ (fun g => by kernel_rfl)
    simp only [i_RankOfClimb_t0]; repeat (first | exact Tail.const _ | exact Tail.here _ | exact Tail.there (Tail.here _) | exact Tail.there (Tail.there (Tail.here _)) | exact Tail.there (Tail.there (Tail.there (Tail.here _))) | exact Tail.there (Tail.there (Tail.there (Tail.there (Tail.here _)))) | exact Tail.there (Tail.there (Tail.there (Tail.there (Tail.there (Tail.here _))))) | apply Tail.cond | (apply Tail.bind; intro _))
noncomputable def i_RankOfClimb_L1 (b0_0 : Int) (r1 : List (Int)) (r2 : List (Int)) (r3 : List (Int)) (r4 : List (Int)) (rank8 : Int) (at9 : Int) (s28 : Int) (s29 : Int) : Option (Int × Bool) := c_i_RankOfClimb.L.1 (((b0_0, (), (), ()), r1, r2, r3, r4, ()), ((), (), rank8, at9, (), s28, s29, ()), ((), (), ()))
noncomputable def i_RankOfClimb_L2 (b0_0 : Int) (r1 : List (Int)) (r2 : List (Int)) (r3 : List (Int)) (r4 : List (Int)) (rank8 : Int) (at9 : Int) (own11 : Int) (s28 : Int) (s29 : Int) (s35 : Int) (s36 : Int) : Option (Int × Bool) := c_i_RankOfClimb.L.2.1 (((b0_0, (), (), ()), r1, r2, r3, r4, ()), ((), (), rank8, at9, own11, (), s28, s29, (), s35, s36, ()), ((), (), ()))
theorem i_RankOfClimb_u1 (b0_0 : Int) (r1 : List (Int)) (r2 : List (Int)) (r3 : List (Int)) (r4 : List (Int)) (rank8 : Int) (at9 : Int) (s28 : Int) (s29 : Int) : i_RankOfClimb_L1 b0_0 r1 r2 r3 r4 rank8 at9 s28 s29 = i_RankOfClimb_t1 i_RankOfClimb_L1 i_RankOfClimb_L2 b0_0 r1 r2 r3 r4 rank8 at9 s28 s29 :=
  (congrArg (fun g => g.1 (((b0_0, (), (), ()), r1, r2, r3, r4, ()), ((), (), rank8, at9, (), s28, s29, ()), ((), (), ()))) (FnCx.L_eq i_RankOfClimb_ts)).trans (by kernel_rfl)
theorem i_RankOfClimb_u2 (b0_0 : Int) (r1 : List (Int)) (r2 : List (Int)) (r3 : List (Int)) (r4 : List (Int)) (rank8 : Int) (at9 : Int) (own11 : Int) (s28 : Int) (s29 : Int) (s35 : Int) (s36 : Int) : i_RankOfClimb_L2 b0_0 r1 r2 r3 r4 rank8 at9 own11 s28 s29 s35 s36 = i_RankOfClimb_t2 i_RankOfClimb_L1 i_RankOfClimb_L2 b0_0 r1 r2 r3 r4 rank8 at9 own11 s28 s29 s35 s36 :=
  (congrArg (fun g => g.2.1 (((b0_0, (), (), ()), r1, r2, r3, r4, ()), ((), (), rank8, at9, own11, (), s28, s29, (), s35, s36, ()), ((), (), ()))) (FnCx.L_eq i_RankOfClimb_ts)).trans (by kernel_rfl)
noncomputable def i_RankOfClimb (s0_Steps : Int) (s0_Strides : List Int) (s0_Broken : List Int) (climb1 : List Int) : Option (Int × Bool) := i_RankOfClimb_t0 i_RankOfClimb_L1 i_RankOfClimb_L2 s0_Steps s0_Strides s0_Broken climb1
theorem i_RankOfClimb_e (s0_Steps : Int) (s0_Strides : List Int) (s0_Broken : List Int) (climb1 : List Int) : c_i_RankOfClimb.start c_i_RankOfClimb.L ((s0_Steps, s0_Strides, s0_Broken), climb1, ()) = i_RankOfClimb s0_Steps s0_Strides s0_Broken climb1 := by kernel_rfl
noncomputable def F_i_RankOfClimb : Ins c_i_RankOfClimb.ins → Option (Int × Bool) := fun x => i_RankOfClimb x.1.1 x.1.2.1 x.1.2.2 x.2.1
noncomputable def S_i_RankOfClimb : FSpec := mkF c_i_RankOfClimb.env.pre c_i_RankOfClimb.ins c_i_RankOfClimb.out c_i_RankOfClimb.inj F_i_RankOfClimb
theorem h_i_RankOfClimb : Cert Try.prog 142 S_i_RankOfClimb := FnCx.certF (c := c_i_RankOfClimb) F_i_RankOfClimb (tyOk _ _ _) (spOk ⟨h_i_counted, fun _ _ _ => trivial, ⟨h_i_Stairs_isClimb, fun _ _ _ => trivial, trivial⟩⟩) (fun _ _ _ _ _ hs => noDr_ok) Try.func142 rfl rfl Try.ntmps142 (by kernel_rfl) rfl rfl (fun _ => rfl) i_RankOfClimb_ts i_RankOfClimb_hs (fun x t hb ht => by
  obtain ⟨⟨s0_Steps, s0_Strides, s0_Broken⟩, climb1, _⟩ := x
  exact (i_RankOfClimb_e s0_Steps s0_Strides s0_Broken climb1).trans ht)
/-! impl.NextClimb -/
noncomputable def c_i_NextClimb : FnCx := { env := env 22 [(142, S_i_RankOfClimb), (129, S_i_ClimbOfRank)] [], body := bodyOf Try.f143, res := [.tmp 4, .tmp 5], ins := [.ro kStairs, .ro kSint], out := [(kSint, true), (kbool, true)], T := List Int × Bool, fin := fun r => (r.1.1, r.1.2.1), inj := fun t => ((t.1, t.2, ()), ((), (), ())), pts := [], fuel := 400, dr := noDr }
noncomputable def i_NextClimb (s0_Steps : Int) (s0_Strides : List Int) (s0_Broken : List Int) (climb1 : List Int) : Option (List Int × Bool) :=
  Option.bind (i_RankOfClimb s0_Steps s0_Strides s0_Broken climb1) fun r =>
    bif !Prod.snd r then some ([], false)
    else Option.bind (i_ClimbOfRank s0_Steps s0_Strides s0_Broken (IntKind.wrap IntKind.i64 (Prod.fst r + 1))) fun r => some (Prod.fst r, Prod.snd r)
theorem i_NextClimb_e (s0_Steps : Int) (s0_Strides : List Int) (s0_Broken : List Int) (climb1 : List Int) : c_i_NextClimb.start c_i_NextClimb.L ((s0_Steps, s0_Strides, s0_Broken), climb1, ()) = i_NextClimb s0_Steps s0_Strides s0_Broken climb1 := by kernel_rfl
noncomputable def F_i_NextClimb : Ins c_i_NextClimb.ins → Option (List Int × Bool) := fun x => i_NextClimb x.1.1 x.1.2.1 x.1.2.2 x.2.1
noncomputable def S_i_NextClimb : FSpec := mkF c_i_NextClimb.env.pre c_i_NextClimb.ins c_i_NextClimb.out c_i_NextClimb.inj F_i_NextClimb
theorem h_i_NextClimb : Cert Try.prog 143 S_i_NextClimb := FnCx.certF (c := c_i_NextClimb) F_i_NextClimb (tyOk _ _ _) (spOk ⟨h_i_RankOfClimb, fun _ _ _ => trivial, ⟨h_i_ClimbOfRank, fun _ _ _ => trivial, trivial⟩⟩) (fun _ _ _ _ _ hs => noDr_ok) Try.func143 rfl rfl Try.ntmps143 (by kernel_rfl) rfl rfl (fun _ => rfl) trivial (fun x => .inl ⟨c_i_NextClimb.start () x, fun _ => rfl⟩) (fun x t hb ht => by
  obtain ⟨⟨s0_Steps, s0_Strides, s0_Broken⟩, climb1, _⟩ := x
  exact (i_NextClimb_e s0_Steps s0_Strides s0_Broken climb1).trans ht)
/-! slices.Clone[[]int,int] -/
noncomputable def c_slices_Clone_int : FnCx := { env := env 8 [] [], body := bodyOf Try.f285, res := [.tmp 2], ins := [.ro kSint], out := [(kSint, true)], T := List Int, fin := fun r => r.1.1, inj := fun t => ((t, ()), ((), ())), pts := [], fuel := 400, dr := noDr }
noncomputable def slices_Clone_int (s0 : List Int) : Option (List Int) :=
  bif decide (0 < (↑(List.length s0) : Int)) then bif Nat.ble (0 + List.length s0) 4294967296 then some ([] ++ s0) else none
  else both (some []) (bif Nat.ble (0 + List.length s0) 4294967296 then some ([] ++ s0) else none)
theorem slices_Clone_int_e (s0 : List Int) : c_slices_Clone_int.start c_slices_Clone_int.L (s0, ()) = slices_Clone_int s0 := by kernel_rfl
-- NICE opt
noncomputable def slices_Clone_int_n (s : List Int) : Option (List Int) := bif decide (s.length ≤ 4294967296) then some s else none
theorem slices_Clone_int_ok (s : List Int) (hb : BdI c_slices_Clone_int.ins (s, ())) (t : List Int) (ht : slices_Clone_int_n s = some t) : slices_Clone_int s = some t := by
  unfold slices_Clone_int_n at ht
  cases h : decide (s.length ≤ 4294967296)
  · rw [h] at ht; cases ht
  · rw [h] at ht; cases ht
    have h := of_decide_eq_true h
    unfold slices_Clone_int
    cases s with
    | nil => simp [ble_dec, both_same]
    | cons x l =>
      have h' : l.length + 1 ≤ 4294967296 := h
      have h2 : (0 : Int) < l.length + 1 := by omega
      simp [ble_dec, h', h2]
noncomputable def F_slices_Clone_int : Ins c_slices_Clone_int.ins → Option (List Int) := fun x => slices_Clone_int_n x.1
noncomputable def S_slices_Clone_int : FSpec := mkF c_slices_Clone_int.env.pre c_slices_Clone_int.ins c_slices_Clone_int.out c_slices_Clone_int.inj F_slices_Clone_int
theorem h_slices_Clone_int : Cert Try.prog 285 S_slices_Clone_int := FnCx.certF (c := c_slices_Clone_int) F_slices_Clone_int (tyOk _ _ _) (spOk trivial) (fun _ _ _ _ _ hs => noDr_ok) Try.func285 rfl rfl Try.ntmps285 (by kernel_rfl) rfl rfl (fun _ => rfl) trivial (fun x => .inl ⟨c_slices_Clone_int.start () x, fun _ => rfl⟩) (fun x t hb ht => by
  obtain ⟨s0, _⟩ := x
  exact (slices_Clone_int_e s0).trans (slices_Clone_int_ok s0 hb t ht))
/-! (impl.Stairs).copied -/
noncomputable def c_i_Stairs_copied : FnCx := { env := env 12 [(285, S_slices_Clone_int)] [], body := bodyOf Try.f254, res := [.cell 2 96], ins := [.ro kStairs], out := [(kStairs, true)], T := (Int × List Int × List Int), fin := fun r => r.1.1, inj := fun t => ((t, ()), ((), ())), pts := [], fuel := 400, dr := evDr (env 12 [(285, S_slices_Clone_int)] []) }
noncomputable def i_Stairs_copied (s0_Steps : Int) (s0_Strides : List Int) (s0_Broken : List Int) : Option ((Int × List Int × List Int)) :=
  Option.bind (slices_Clone_int_n s0_Strides) fun r => Option.bind (slices_Clone_int_n s0_Broken) fun r_1 => some (s0_Steps, r, r_1)
theorem i_Stairs_copied_e (s0_Steps : Int) (s0_Strides : List Int) (s0_Broken : List Int) : c_i_Stairs_copied.start c_i_Stairs_copied.L ((s0_Steps, s0_Strides, s0_Broken), ()) = i_Stairs_copied s0_Steps s0_Strides s0_Broken := by kernel_rfl
noncomputable def F_i_Stairs_copied : Ins c_i_Stairs_copied.ins → Option ((Int × List Int × List Int)) := fun x => i_Stairs_copied x.1.1 x.1.2.1 x.1.2.2
noncomputable def S_i_Stairs_copied : FSpec := mkF c_i_Stairs_copied.env.pre c_i_Stairs_copied.ins c_i_Stairs_copied.out c_i_Stairs_copied.inj F_i_Stairs_copied
theorem h_i_Stairs_copied : Cert Try.prog 254 S_i_Stairs_copied := FnCx.certF (c := c_i_Stairs_copied) F_i_Stairs_copied (tyOk _ _ _) (spOk ⟨h_slices_Clone_int, fun _ _ _ => trivial, trivial⟩) (fun _ _ _ _ _ hs => evDr_ok (tyOk _ _ _) hs follows) Try.func254 rfl rfl Try.ntmps254 (by kernel_rfl) rfl rfl (fun _ => rfl) trivial (fun x => .inl ⟨c_i_Stairs_copied.start () x, fun _ => rfl⟩) (fun x t hb ht => by
  obtain ⟨⟨s0_Steps, s0_Strides, s0_Broken⟩, _⟩ := x
  exact (i_Stairs_copied_e s0_Steps s0_Strides s0_Broken).trans ht)
/-! slices.Reverse[[]int,int] -/
noncomputable def c_slices_Reverse_int : FnCx := { env := env 28 [] [], body := bodyOf Try.f255, res := [], ins := [.wr kSint], out := [], T := List Int, fin := fun r => r.2.1, inj := fun t => ((), (t, ())), pts := [([.inLoop [1, 0, 0], .inBlock 0], Shape.mk [Bs.row kint 3 true] [(0, Ss.one (Cs.sl 0)), (2, Ss.one (Cs.sc kint)), (3, Ss.one (Cs.sc kint))] [Ss.one (Cs.sl 0)])], fuel := 400, dr := evDr (env 28 [] []) }
noncomputable def slices_Reverse_int_t1 (g1 : List (Int) → Int → Int → Option (List Int)) (r0 : List (Int)) (i2 : Int) (j3 : Int) : Option (List Int) :=
  bif decide (i2 < j3) then
    bif decide (0 ≤ j3) then
      bif decide (j3 < (↑(List.length r0) : Int)) then
        bif decide (0 ≤ i2) then
          bif decide (i2 < (↑(List.length r0) : Int)) then
            bif decide (0 ≤ i2) then
              bif decide (i2 < (↑(List.length r0) : Int)) then
                bif decide (0 ≤ j3) then
                  bif decide (j3 < (↑(List.length (List.set r0 (Int.toNat i2) (rdk kint r0 j3))) : Int)) then
                    g1 (List.set (List.set r0 (Int.toNat i2) (rdk kint r0 j3)) (Int.toNat j3) (rdk kint r0 i2))
                      (IntKind.wrap IntKind.i64 (i2 + 1)) (IntKind.wrap IntKind.i64 (j3 - 1))
                  else none
                else none
              else none
            else none
          else none
        else none
      else none
    else none
  else some r0
noncomputable def slices_Reverse_int_t0 (g1 : List (Int) → Int → Int → Option (List Int)) (s0 : List Int) : Option (List Int) :=
  g1 s0 0 (IntKind.wrap IntKind.i64 ((↑(List.length s0) : Int) - 1))
theorem slices_Reverse_int_ts : Tails c_slices_Reverse_int.pts c_slices_Reverse_int.round :=
  ⟨fun s => by
    obtain ⟨⟨r0, _⟩, ⟨_, i2, j3, _⟩, ⟨_, _⟩⟩ := s
    refine Tail.eq (Y := fun g => slices_Reverse_int_t1 (fun r0 i2 j3 => g.1 ((r0, ()), ((), i2, j3, ()), ((), ()))) r0 i2 j3) ?_ (fun g => by kernel_rfl)
    simp only [slices_Reverse_int_t1]; repeat (first | exact Tail.const _ | exact Tail.here _ | exact Tail.there (Tail.here _) | exact Tail.there (Tail.there (Tail.here _)) | exact Tail.there (Tail.there (Tail.there (Tail.here _))) | exact Tail.there (Tail.there (Tail.there (Tail.there (Tail.here _)))) | exact Tail.there (Tail.there (Tail.there (Tail.there (Tail.there (Tail.here _))))) | apply Tail.cond | (apply Tail.bind; intro _)), trivial⟩
theorem slices_Reverse_int_hs : ∀ x, Tail c_slices_Reverse_int.pts (fun g => c_slices_Reverse_int.start g x) := fun x => by
    obtain ⟨s0, _⟩ := x
    refine Tail.eq (Y := fun g => slices_Reverse_int_t0 (fun r0 i2 j3 => g.1 ((r0, ()), ((), i2, j3, ()), ((), ()))) s0) ?_ (fun g => by kernel_rfl)
    simp only [slices_Reverse_int_t0]; repeat (first | exact Tail.const _ | exact Tail.here _ | exact Tail.there (Tail.here _) | exact Tail.there (Tail.there (Tail.here _)) | exact Tail.there (Tail.there (Tail.there (Tail.here _))) | exact Tail.there (Tail.there (Tail.there (Tail.there (Tail.here _)))) | exact Tail.there (Tail.there (Tail.there (Tail.there (Tail.there (Tail.here _))))) | apply Tail.cond | (apply Tail.bind; intro _))
noncomputable def slices_Reverse_int_L1 (r0 : List (Int)) (i2 : Int) (j3 : Int) : Option (List Int) := c_slices_Reverse_int.L.1 ((r0, ()), ((), i2, j3, ()), ((), ()))
theorem slices_Reverse_int_u1 (r0 : List (Int)) (i2 : Int) (j3 : Int) : slices_Reverse_int_L1 r0 i2 j3 = slices_Reverse_int_t1 slices_Reverse_int_L1 r0 i2 j3 :=
  (congrArg (fun g => g.1 ((r0, ()), ((), i2, j3, ()), ((), ()))) (FnCx.L_eq slices_Reverse_int_ts)).trans (by kernel_rfl)
noncomputable def slices_Reverse_int (s0 : List Int) : Option (List Int) := slices_Reverse_int_t0 slices_Reverse_int_L1 s0
theorem slices_Reverse_int_e (s0 : List Int) : c_slices_Reverse_int.start c_slices_Reverse_int.L (s0, ()) = slices_Reverse_int s0 := by kernel_rfl
-- NICE tot
noncomputable def slices_Reverse_int_n (s : List Int) : List Int := s.reverse
theorem slices_Reverse_int_ok (s : List Int) (hb : BdI c_slices_Reverse_int.ins (s, ())) : slices_Reverse_int s = some (slices_Reverse_int_n s) := by
  have hl : s.length ≤ maxLen := hb.1.1
  rw [maxLen_eq] at hl
  have e := loop_rev (L := slices_Reverse_int_L1) (l := s)
    (fun r i j hi hj hr hij => by
      have h1 : IntKind.wrap .i64 ((i : Int) + 1) = ((i + 1 : Nat) : Int) := by rw [wrap64 (by omega) (by omega)]; rfl
      have h2 : IntKind.wrap .i64 ((j : Int) - 1) = ((j - 1 : Nat) : Int) := by rw [wrap64 (by omega) (by omega)]; omega
      simp only [slices_Reverse_int_u1 r i j, slices_Reverse_int_t1, rdk_get (k := kint) hi, rdk_get (k := kint) hj, h1, h2, Int.toNat_natCast]
      simp [hi, hj, hij])
    (fun r i j hij => by
      rw [slices_Reverse_int_u1 r i j]
      simp only [slices_Reverse_int_t1]
      have : ¬ (i < j) := by omega
      simp [this])
  unfold slices_Reverse_int slices_Reverse_int_t0
  rw [wrap64 (by omega) (by omega)]
  exact e
noncomputable def F_slices_Reverse_int : Ins c_slices_Reverse_int.ins → (List Int) := fun x => slices_Reverse_int_n x.1
noncomputable def S_slices_Reverse_int : FSpec := mkT c_slices_Reverse_int.env.pre c_slices_Reverse_int.ins c_slices_Reverse_int.out c_slices_Reverse_int.inj F_slices_Reverse_int
theorem h_slices_Reverse_int : Cert Try.prog 255 S_slices_Reverse_int := FnCx.certT (c := c_slices_Reverse_int) F_slices_Reverse_int (tyOk _ _ _) (spOk trivial) (fun _ _ _ _ _ hs => evDr_ok (tyOk _ _ _) hs follows) Try.func255 rfl rfl Try.ntmps255 (by kernel_rfl) rfl rfl (fun _ => rfl) slices_Reverse_int_ts slices_Reverse_int_hs (fun x hb => by
  obtain ⟨s0, _⟩ := x
  exact (slices_Reverse_int_e s0).trans (slices_Reverse_int_ok s0 hb))
/-! impl.TurnStairs -/
noncomputable def c_i_TurnStairs : FnCx := { env := env 34 [(245, S_i_AreStairs), (254, S_i_Stairs_copied), (255, S_slices_Reverse_int)] [], body := bodyOf Try.f145, res := [.cell 2 96, .tmp 3], ins := [.ro kStairs], out := [(kStairs, true), (kbool, true)], T := (Int × List Int × List Int) × Bool, fin := fun r => (r.1.1, r.1.2.1), inj := fun t => ((t.1, t.2, ()), ((), ())), pts := [([.inLoop [1, 1, 1, 0, 1, 0, 0], .inBlock 0, .code [1, 1, 1, 1]], Shape.mk [Bs.box 96 [Cs.sc kint, Cs.sl 4, Cs.sl 5], Bs.box 96 [Cs.sc kint, Cs.sl 6, Cs.sl 7], Bs.box 96 [Cs.sc kint, Cs.sl 8, Cs.sl 3], Bs.row kint 3 true, Bs.row kint 3 false, Bs.row kint 3 false, Bs.row kint 3 true, Bs.row kint 3 true, Bs.row kint 3 true] [(1, Ss.one (Cs.ptr 0 0)), (2, Ss.one (Cs.ptr 1 0)), (4, Ss.one (Cs.ptr 2 0)), (14, Ss.one (Cs.sl 3)), (15, Ss.one (Cs.sc kint)), (16, Ss.one (Cs.sc kint))] [Ss.one (Cs.any)])], fuel := 400, dr := noDr }
noncomputable def i_TurnStairs_t1 (g1 : Int → Int → Int → List (Int) → List (Int) → List (Int) → List (Int) → List (Int) → List (Int) → Int → Int → Option ((Int × List Int × List Int) × Bool)) (b0_0 : Int) (b1_0 : Int) (b2_0 : Int) (r3 : List (Int)) (r4 : List (Int)) (r5 : List (Int)) (r6 : List (Int)) (r7 : List (Int)) (r8 : List (Int)) (s15 : Int) (s16 : Int) : Option ((Int × List Int × List Int) × Bool) :=
  bif decide (s16 < s15) then
    bif decide (0 ≤ s16) then
      bif decide (s16 < (↑(List.length r3) : Int)) then
        bif decide (0 ≤ s16) then
          bif decide (s16 < (↑(List.length r3) : Int)) then
            g1 b0_0 b1_0 b2_0 (List.set r3 (Int.toNat s16) (IntKind.wrap IntKind.i64 (b0_0 - rdk kint r3 s16))) r4 r5 r6 r7 r8 s15
              (IntKind.wrap IntKind.i64 (s16 + 1))
          else none
        else none
      else none
    else none
  else some ((b2_0, r8, slices_Reverse_int_n r3), true)
noncomputable def i_TurnStairs_t0 (g1 : Int → Int → Int → List (Int) → List (Int) → List (Int) → List (Int) → List (Int) → List (Int) → Int → Int → Option ((Int × List Int × List Int) × Bool)) (s0_Steps : Int) (s0_Strides : List Int) (s0_Broken : List Int) : Option ((Int × List Int × List Int) × Bool) :=
  bif !i_AreStairs s0_Steps s0_Strides s0_Broken then some ((0, [], []), false)
  else
    Option.bind (i_Stairs_copied s0_Steps s0_Strides s0_Broken) fun r =>
      g1 s0_Steps 0 (Prod.fst r) (Prod.snd (Prod.snd r)) s0_Strides s0_Broken [] [] (Prod.fst (Prod.snd r)) (↑(List.length (Prod.snd (Prod.snd r))) : Int) 0
theorem i_TurnStairs_ts : Tails c_i_TurnStairs.pts c_i_TurnStairs.round :=
  ⟨fun s => by
    obtain ⟨⟨⟨b0_0, _, _, _⟩, ⟨b1_0, _, _, _⟩, ⟨b2_0, _, _, _⟩, r3, r4, r5, r6, r7, r8, _⟩, ⟨_, _, _, _, s15, s16, _⟩, ⟨_, _⟩⟩ := s
    refine Tail.eq (Y := fun g => i_TurnStairs_t1 (fun b0_0 b1_0 b2_0 r3 r4 r5 r6 r7 r8 s15 s16 => g.1 (((b0_0, (), (), ()), (b1_0, (), (), ()), (b2_0, (), (), ()), r3, r4, r5, r6, r7, r8, ()), ((), (), (), (), s15, s16, ()), ((), ()))) b0_0 b1_0 b2_0 r3 r4 r5 r6 r7 r8 s15 s16) ?_ (fun g => by kernel_rfl)
    simp only [i_TurnStairs_t1]; repeat (first | exact Tail.const _ | exact Tail.here _ | exact Tail.there (Tail.here _) | exact Tail.there (Tail.there (Tail.here _)) | exact Tail.there (Tail.there (Tail.there (Tail.here _))) | exact Tail.there (Tail.there (Tail.there (Tail.there (Tail.here _)))) | exact Tail.there (Tail.there (Tail.there (Tail.there (Tail.there (Tail.here _))))) | apply Tail.cond | (apply Tail.bind; intro _)), trivial⟩
theorem i_TurnStairs_hs : ∀ x, Tail c_i_TurnStairs.pts (fun g => c_i_TurnStairs.start g x) := fun x => by
    obtain ⟨⟨s0_Steps, s0_Strides, s0_Broken⟩, _⟩ := x
    refine Tail.eq (Y := fun g => i_TurnStairs_t0 (fun b0_0 b1_0 b2_0 r3 r4 r5 r6 r7 r8 s15 s16 => g.1 (((b0_0, (), (), ()), (b1_0, (), (), ()), (b2_0, (), (), ()), r3, r4, r5, r6, r7, r8, ()), ((), (), (), (), s15, s16, ()), ((), ()))) s0_Steps s0_Strides s0_Broken) ?_ (fun g => by kernel_rfl)
    simp only [i_TurnStairs_t0]; repeat (first | exact Tail.const _ | exact Tail.here _ | exact Tail.there (Tail.here _) | exact Tail.there (Tail.there (Tail.here _)) | exact Tail.there (Tail.there (Tail.there (Tail.here _))) | exact Tail.there (Tail.there (Tail.there (Tail.there (Tail.here _)))) | exact Tail.there (Tail.there (Tail.there (Tail.there (Tail.there (Tail.here _))))) | apply Tail.cond | (apply Tail.bind; intro _))
noncomputable def i_TurnStairs_L1 (b0_0 : Int) (b1_0 : Int) (b2_0 : Int) (r3 : List (Int)) (r4 : List (Int)) (r5 : List (Int)) (r6 : List (Int)) (r7 : List (Int)) (r8 : List (Int)) (s15 : Int) (s16 : Int) : Option ((Int × List Int × List Int) × Bool) := c_i_TurnStairs.L.1 (((b0_0, (), (), ()), (b1_0, (), (), ()), (b2_0, (), (), ()), r3, r4, r5, r6, r7, r8, ()), ((), (), (), (), s15, s16, ()), ((), ()))
theorem i_TurnStairs_u1 (b0_0 : Int) (b1_0 : Int) (b2_0 : Int) (r3 : List (Int)) (r4 : List (Int)) (r5 : List (Int)) (r6 : List (Int)) (r7 : List (Int)) (r8 : List (Int)) (s15 : Int) (s16 : Int) : i_TurnStairs_L1 b0_0 b1_0 b2_0 r3 r4 r5 r6 r7 r8 s15 s16 = i_TurnStairs_t1 i_TurnStairs_L1 b0_0 b1_0 b2_0 r3 r4 r5 r6 r7 r8 s15 s16 :=
  (congrArg (fun g => g.1 (((b0_0, (), (), ()), (b1_0, (), (), ()), (b2_0, (), (), ()), r3, r4, r5, r6, r7, r8, ()), ((), (), (), (), s15, s16, ()), ((), ()))) (FnCx.L_eq i_TurnStairs_ts)).trans (by kernel_rfl)
noncomputable def i_TurnStairs (s0_Steps : Int) (s0_Strides : List Int) (s0_Broken : List Int) : Option ((Int × List Int × List Int) × Bool) := i_TurnStairs_t0 i_TurnStairs_L1 s0_Steps s0_Strides s0_Broken
theorem i_TurnStairs_e (s0_Steps : Int) (s0_Strides : List Int) (s0_Broken : List Int) : c_i_TurnStairs.start c_i_TurnStairs.L ((s0_Steps, s0_Strides, s0_Broken), ()) = i_TurnStairs s0_Steps s0_Strides s0_Broken := by kernel_rfl
-- NICE tot
noncomputable def i_TurnStairs_n (a : Int) (b c : List Int) : (Int × List Int × List Int) × Bool := bif s_clGood a b c then ((a, b, (c.map fun x => a - x).reverse), true) else ((0, [], []), false)
theorem i_TurnStairs_ok (a : Int) (b c : List Int) (hb : BdI c_i_TurnStairs.ins ((a, b, c), ())) : i_TurnStairs a b c = some (i_TurnStairs_n a b c) := by
  unfold i_TurnStairs i_TurnStairs_t0 i_TurnStairs_n
  rw [i_AreStairs_eq]
  cases hg : s_clGood a b c
  · rfl
  · obtain ⟨h1, h2, h3, h4⟩ := s_clGood_iff.1 hg
    have hl := s_clGood_len hg
    have hc := (rising_iff.1 h4).2
    have hcp : i_Stairs_copied a b c = some (a, b, c) := by
      unfold i_Stairs_copied slices_Clone_int_n
      rw [decide_eq_true (by omega : b.length ≤ 4294967296), decide_eq_true (by omega : c.length ≤ 4294967296)]
      rfl
    simp only [hcp, Bool.not_true, cond_false, cond_true, Option.bind_some]
    have e := loop_upd (L := fun i r => i_TurnStairs_L1 a 0 a r b c [] [] b c.length (i : Int)) (n := c.length) (f := fun x => IntKind.wrap .i64 (a - x)) (e := fun r => some ((a, b, r.reverse), true))
      (fun i r h hr => by
        have hi : i < c.length := by omega
        simp only [i_TurnStairs_u1 a 0 a r b c [] [] b c.length i, i_TurnStairs_t1, rdk_get (k := kint) h, wrapS hi (show c.length ≤ maxLen by rw [maxLen_eq]; omega), Int.toNat_natCast]
        simp [h, hi])
      (fun r hr => by simp [i_TurnStairs_u1 a 0 a r b c [] [] b c.length c.length, i_TurnStairs_t1, slices_Reverse_int_n]) c rfl
    rw [show ((0 : Int)) = ((0 : Nat) : Int) from rfl]
    refine e.trans ?_
    have : c.map (fun x => IntKind.wrap .i64 (a - x)) = c.map (fun x => a - x) := List.map_congr_left fun x hx => by
      have := hc x hx
      rw [wrapI (by omega) (by omega)]
    rw [this]
noncomputable def F_i_TurnStairs : Ins c_i_TurnStairs.ins → ((Int × List Int × List Int) × Bool) := fun x => i_TurnStairs_n x.1.1 x.1.2.1 x.1.2.2
noncomputable def S_i_TurnStairs : FSpec := mkT c_i_TurnStairs.env.pre c_i_TurnStairs.ins c_i_TurnStairs.out c_i_TurnStairs.inj F_i_TurnStairs
theorem h_i_TurnStairs : Cert Try.prog 145 S_i_TurnStairs := FnCx.certT (c := c_i_TurnStairs) F_i_TurnStairs (tyOk _ _ _) (spOk ⟨h_i_AreStairs, fun _ _ _ => trivial, ⟨h_i_Stairs_copied, fun _ _ _ => trivial, ⟨h_slices_Reverse_int, fun _ _ _ => trivial, trivial⟩⟩⟩) (fun _ _ _ _ _ hs => noDr_ok) Try.func145 rfl rfl Try.ntmps145 (by kernel_rfl) rfl rfl (fun _ => rfl) i_TurnStairs_ts i_TurnStairs_hs (fun x hb => by
  obtain ⟨⟨s0_Steps, s0_Strides, s0_Broken⟩, _⟩ := x
  exact (i_TurnStairs_e s0_Steps s0_Strides s0_Broken).trans (i_TurnStairs_ok s0_Steps s0_Strides s0_Broken hb))
/-! impl.CountByStrides -/
noncomputable def c_i_CountByStrides : FnCx := { env := env 28 [(241, S_i_counted), (249, S_i_Stairs_byStrides)] [], body := bodyOf Try.f146, res := [.tmp 4, .tmp 5], ins := [.ro kStairs, .ro kint], out := [(kint, true), (kbool, true)], T := Int × Bool, fin := fun r => (r.1.1, r.1.2.1), inj := fun t => ((t.1, t.2, ()), ((), (), ())), pts := [], fuel := 400, dr := noDr }
noncomputable def i_CountByStrides (s0_Steps : Int) (s0_Strides : List Int) (s0_Broken : List Int) (many1 : Int) : Option (Int × Bool) :=
  Option.bind (i_counted s0_Steps s0_Strides s0_Broken) fun r =>
    bif !Prod.snd r then some (0, false)
    else
      bif decide (many1 < 0) then some (0, false)
      else
        bif decide (many1 > s0_Steps) then some (0, true)
        else
          Option.bind (i_Stairs_byStrides s0_Steps s0_Strides s0_Broken) fun r =>
            bif decide (0 ≤ many1) then bif decide (many1 < (↑(List.length r) : Int)) then some (rdk kint r many1, true) else none else none
theorem i_CountByStrides_e (s0_Steps : Int) (s0_Strides : List Int) (s0_Broken : List Int) (many1 : Int) : c_i_CountByStrides.start c_i_CountByStrides.L ((s0_Steps, s0_Strides, s0_Broken), many1, ()) = i_CountByStrides s0_Steps s0_Strides s0_Broken many1 := by kernel_rfl
noncomputable def F_i_CountByStrides : Ins c_i_CountByStrides.ins → Option (Int × Bool) := fun x => i_CountByStrides x.1.1 x.1.2.1 x.1.2.2 x.2.1
noncomputable def S_i_CountByStrides : FSpec := mkF c_i_CountByStrides.env.pre c_i_CountByStrides.ins c_i_CountByStrides.out c_i_CountByStrides.inj F_i_CountByStrides
theorem h_i_CountByStrides : Cert Try.prog 146 S_i_CountByStrides := FnCx.certF (c := c_i_CountByStrides) F_i_CountByStrides (tyOk _ _ _) (spOk ⟨h_i_counted, fun _ _ _ => trivial, ⟨h_i_Stairs_byStrides, fun _ _ _ => trivial, trivial⟩⟩) (fun _ _ _ _ _ hs => noDr_ok) Try.func146 rfl rfl Try.ntmps146 (by kernel_rfl) rfl rfl (fun _ => rfl) trivial (fun x => .inl ⟨c_i_CountByStrides.start () x, fun _ => rfl⟩) (fun x t hb ht => by
  obtain ⟨⟨s0_Steps, s0_Strides, s0_Broken⟩, many1, _⟩ := x
  exact (i_CountByStrides_e s0_Steps s0_Strides s0_Broken many1).trans ht)
/-! spec.clIs -/
noncomputable def c_s_clIs : FnCx := { env := env 35 [(217, S_s_l1Has), (282, S_s_clStands)] [], body := bodyOf Try.f258, res := [.tmp 4], ins := [.ro kStairs, .ro kSint], out := [(kbool, true)], T := Bool, fin := fun r => r.1.1, inj := fun t => ((t, ()), ((), (), ())), pts := [([.inLoop [1, 1, 0, 1, 0, 0], .inBlock 0, .code [1, 1, 1]], Shape.mk [Bs.box 96 [Cs.sc kint, Cs.sl 2, Cs.sl 3], Bs.row kint 3 false, Bs.row kint 3 false, Bs.row kint 3 false] [(2, Ss.one (Cs.ptr 0 0)), (5, Ss.one (Cs.sc kint)), (8, Ss.one (Cs.sl 1)), (9, Ss.one (Cs.sc kint)), (10, Ss.one (Cs.sc kint))] [Ss.one (Cs.any), Ss.one (Cs.any)])], fuel := 400, dr := noDr }
noncomputable def s_clIs_t1 (g1 : Int → List (Int) → List (Int) → List (Int) → Int → Int → Int → Option (Bool)) (b0_0 : Int) (r1 : List (Int)) (r2 : List (Int)) (r3 : List (Int)) (at5 : Int) (s9 : Int) (s10 : Int) : Option Bool :=
  bif decide (s10 < s9) then
    bif decide (0 ≤ s10) then
      bif decide (s10 < (↑(List.length r1) : Int)) then
        bif !s_l1Has_n r2 (rdk kint r1 s10) then some false
        else
          bif !s_clStands b0_0 r2 r3 (IntKind.wrap IntKind.i64 (at5 + rdk kint r1 s10)) then some false
          else g1 b0_0 r1 r2 r3 (IntKind.wrap IntKind.i64 (at5 + rdk kint r1 s10)) s9 (IntKind.wrap IntKind.i64 (s10 + 1))
      else none
    else none
  else some (at5 == b0_0)
noncomputable def s_clIs_t0 (g1 : Int → List (Int) → List (Int) → List (Int) → Int → Int → Int → Option (Bool)) (s0_Steps : Int) (s0_Strides : List Int) (s0_Broken : List Int) (climb1 : List Int) : Option Bool :=
  g1 s0_Steps climb1 s0_Strides s0_Broken 0 (↑(List.length climb1) : Int) 0
theorem s_clIs_ts : Tails c_s_clIs.pts c_s_clIs.round :=
  ⟨fun s => by
    obtain ⟨⟨⟨b0_0, _, _, _⟩, r1, r2, r3, _⟩, ⟨_, at5, _, s9, s10, _⟩, ⟨_, _, _⟩⟩ := s
    refine Tail.eq (Y := fun g => s_clIs_t1 (fun b0_0 r1 r2 r3 at5 s9 s10 => g.1 (((b0_0, (), (), ()), r1, r2, r3, ()), ((), at5, (), s9, s10, ()), ((), (), ()))) b0_0 r1 r2 r3 at5 s9 s10) ?_ (fun g => by kernel_rfl)
    simp only [s_clIs_t1]; repeat (first | exact Tail.const _ | exact Tail.here _ | exact Tail.there (Tail.here _) | exact Tail.there (Tail.there (Tail.here _)) | exact Tail.there (Tail.there (Tail.there (Tail.here _))) | exact Tail.there (Tail.there (Tail.there (Tail.there (Tail.here _)))) | exact Tail.there (Tail.there (Tail.there (Tail.there (Tail.there (Tail.here _))))) | apply Tail.cond | (apply Tail.bind; intro _)), trivial⟩
theorem s_clIs_hs : ∀ x, Tail c_s_clIs.pts (fun g => c_s_clIs.start g x) := fun x => by
    obtain ⟨⟨s0_Steps, s0_Strides, s0_Broken⟩, climb1, _⟩ := x
    refine Tail.eq (Y := fun g => s_clIs_t0 (fun b0_0 r1 r2 r3 at5 s9 s10 => g.1 (((b0_0, (), (), ()), r1, r2, r3, ()), ((), at5, (), s9, s10, ()), ((), (), ()))) s0_Steps s0_Strides s0_Broken climb1) ?_ (fun g => by kernel_rfl)
    simp only [s_clIs_t0]; repeat (first | exact Tail.const _ | exact Tail.here _ | exact Tail.there (Tail.here _) | exact Tail.there (Tail.there (Tail.here _)) | exact Tail.there (Tail.there (Tail.there (Tail.here _))) | exact Tail.there (Tail.there (Tail.there (Tail.there (Tail.here _)))) | exact Tail.there (Tail.there (Tail.there (Tail.there (Tail.there (Tail.here _))))) | apply Tail.cond | (apply Tail.bind; intro _))
noncomputable def s_clIs_L1 (b0_0 : Int) (r1 : List (Int)) (r2 : List (Int)) (r3 : List (Int)) (at5 : Int) (s9 : Int) (s10 : Int) : Option Bool := c_s_clIs.L.1 (((b0_0, (), (), ()), r1, r2, r3, ()), ((), at5, (), s9, s10, ()), ((), (), ()))
theorem s_clIs_u1 (b0_0 : Int) (r1 : List (Int)) (r2 : List (Int)) (r3 : List (Int)) (at5 : Int) (s9 : Int) (s10 : Int) : s_clIs_L1 b0_0 r1 r2 r3 at5 s9 s10 = s_clIs_t1 s_clIs_L1 b0_0 r1 r2 r3 at5 s9 s10 :=
  (congrArg (fun g => g.1 (((b0_0, (), (), ()), r1, r2, r3, ()), ((), at5, (), s9, s10, ()), ((), (), ()))) (FnCx.L_eq s_clIs_ts)).trans (by kernel_rfl)
noncomputable def s_clIs (s0_Steps : Int) (s0_Strides : List Int) (s0_Broken : List Int) (climb1 : List Int) : Option Bool := s_clIs_t0 s_clIs_L1 s0_Steps s0_Strides s0_Broken climb1
theorem s_clIs_e (s0_Steps : Int) (s0_Strides : List Int) (s0_Broken : List Int) (climb1 : List Int) : c_s_clIs.start c_s_clIs.L ((s0_Steps, s0_Strides, s0_Broken), climb1, ()) = s_clIs s0_Steps s0_Strides s0_Broken climb1 := by kernel_rfl
noncomputable def F_s_clIs : Ins c_s_clIs.ins → Option Bool := fun x => s_clIs x.1.1 x.1.2.1 x.1.2.2 x.2.1
noncomputable def S_s_clIs : FSpec := mkF c_s_clIs.env.pre c_s_clIs.ins c_s_clIs.out c_s_clIs.inj F_s_clIs
theorem h_s_clIs : Cert Try.prog 258 S_s_clIs := FnCx.certF (c := c_s_clIs) F_s_clIs (tyOk _ _ _) (spOk ⟨h_s_l1Has, fun _ _ _ => trivial, ⟨h_s_clStands, fun _ _ _ => trivial, trivial⟩⟩) (fun _ _ _ _ _ hs => noDr_ok) Try.func258 rfl rfl Try.ntmps258 (by kernel_rfl) rfl rfl (fun _ => rfl) s_clIs_ts s_clIs_hs (fun x t hb ht => by
  obtain ⟨⟨s0_Steps, s0_Strides, s0_Broken⟩, climb1, _⟩ := x
  exact (s_clIs_e s0_Steps s0_Strides s0_Broken climb1).trans ht)
/-! spec.clBoth -/
noncomputable def c_s_clBoth : FnCx := { env := env 12 [(247, S_s_clGood), (258, S_s_clIs)] [], body := bodyOf Try.f256, res := [.tmp 4], ins := [.ro kStairs, .ro kSint], out := [(kbool, true)], T := Bool, fin := fun r => r.1.1, inj := fun t => ((t, ()), ((), (), ())), pts := [], fuel := 400, dr := noDr }
noncomputable def s_clBoth (s0_Steps : Int) (s0_Strides : List Int) (s0_Broken : List Int) (climb1 : List Int) : Option Bool :=
  bif s_clGood s0_Steps s0_Strides s0_Broken then Option.bind (s_clIs s0_Steps s0_Strides s0_Broken climb1) fun r => some r else some false
theorem s_clBoth_e (s0_Steps : Int) (s0_Strides : List Int) (s0_Broken : List Int) (climb1 : List Int) : c_s_clBoth.start c_s_clBoth.L ((s0_Steps, s0_Strides, s0_Broken), climb1, ()) = s_clBoth s0_Steps s0_Strides s0_Broken climb1 := by kernel_rfl
noncomputable def F_s_clBoth : Ins c_s_clBoth.ins → Option Bool := fun x => s_clBoth x.1.1 x.1.2.1 x.1.2.2 x.2.1
noncomputable def S_s_clBoth : FSpec := mkF c_s_clBoth.env.pre c_s_clBoth.ins c_s_clBoth.out c_s_clBoth.inj F_s_clBoth
theorem h_s_clBoth : Cert Try.prog 256 S_s_clBoth := FnCx.certF (c := c_s_clBoth) F_s_clBoth (tyOk _ _ _) (spOk ⟨h_s_clGood, fun _ _ _ => trivial, ⟨h_s_clIs, fun _ _ _ => trivial, trivial⟩⟩) (fun _ _ _ _ _ hs => noDr_ok) Try.func256 rfl rfl Try.ntmps256 (by kernel_rfl) rfl rfl (fun _ => rfl) trivial (fun x => .inl ⟨c_s_clBoth.start () x, fun _ => rfl⟩) (fun x t hb ht => by
  obtain ⟨⟨s0_Steps, s0_Strides, s0_Broken⟩, climb1, _⟩ := x
  exact (s_clBoth_e s0_Steps s0_Strides s0_Broken climb1).trans ht)
/-! spec.clRank -/
noncomputable def c_s_clRank : FnCx := { env := env 44 [(244, S_s_clWays)] [], body := bodyOf Try.f257, res := [.tmp 4], ins := [.ro kStairs, .ro kSint], out := [(kint, true)], T := Int, fin := fun r => r.1.1, inj := fun t => ((t, ()), ((), (), ())), pts := [([.inLoop [1, 1, 1, 0, 1, 0, 0], .inBlock 0, .code [1, 1, 1, 1]], Shape.mk [Bs.box 96 [Cs.sc kint, Cs.sl 3, Cs.sl 4], Bs.row kint 3 true, Bs.row kint 3 false, Bs.row kint 3 false, Bs.row kint 3 false] [(2, Ss.one (Cs.ptr 0 0)), (5, Ss.one (Cs.sl 1)), (6, Ss.one (Cs.sc kint)), (7, Ss.one (Cs.sc kint)), (14, Ss.one (Cs.sl 2)), (15, Ss.one (Cs.sc kint)), (16, Ss.one (Cs.sc kint))] [Ss.one (Cs.any), Ss.one (Cs.any)]), ([.inLoop [1, 1, 1, 0, 1, 0, 0, 1, 1, 0, 0, 1, 0, 1, 0, 0], .inBlock 2, .code [1, 1, 1, 0, 1, 0, 0, 1, 1, 0, 0, 1, 1], .inBlock 1, .code [1, 1, 1, 0, 1, 0, 0, 1, 1, 1], .inLoop [1, 1, 1, 0, 1, 0, 0], .inBlock 0, .code [1, 1, 1, 1]], Shape.mk [Bs.box 96 [Cs.sc kint, Cs.sl 3, Cs.sl 4], Bs.row kint 3 true, Bs.row kint 3 false, Bs.row kint 3 false, Bs.row kint 3 false] [(2, Ss.one (Cs.ptr 0 0)), (5, Ss.one (Cs.sl 1)), (6, Ss.one (Cs.sc kint)), (7, Ss.one (Cs.sc kint)), (9, Ss.one (Cs.sc kint)), (14, Ss.one (Cs.sl 2)), (15, Ss.one (Cs.sc kint)), (16, Ss.one (Cs.sc kint)), (21, Ss.one (Cs.sl 3)), (22, Ss.one (Cs.sc kint)), (23, Ss.one (Cs.sc kint))] [Ss.one (Cs.any), Ss.one (Cs.any)])], fuel := 400, dr := noDr }
noncomputable def s_clRank_t1 (g1 : Int → List (Int) → List (Int) → List (Int) → List (Int) → Int → Int → Int → Int → Option (Int)) (g2 : Int → List (Int) → List (Int) → List (Int) → List (Int) → Int → Int → Int → Int → Int → Int → Int → Option (Int)) (b0_0 : Int) (r1 : List (Int)) (r2 : List (Int)) (r3 : List (Int)) (r4 : List (Int)) (rank6 : Int) (at7 : Int) (s15 : Int) (s16 : Int) : Option Int :=
  bif decide (s16 < s15) then
    bif decide (0 ≤ s16) then
      bif decide (s16 < (↑(List.length r2) : Int)) then g2 b0_0 r1 r2 r3 r4 rank6 at7 (rdk kint r2 s16) s15 s16 (↑(List.length r3) : Int) 0
      else none
    else none
  else some rank6
noncomputable def s_clRank_t2 (g1 : Int → List (Int) → List (Int) → List (Int) → List (Int) → Int → Int → Int → Int → Option (Int)) (g2 : Int → List (Int) → List (Int) → List (Int) → List (Int) → Int → Int → Int → Int → Int → Int → Int → Option (Int)) (b0_0 : Int) (r1 : List (Int)) (r2 : List (Int)) (r3 : List (Int)) (r4 : List (Int)) (rank6 : Int) (at7 : Int) (own9 : Int) (s15 : Int) (s16 : Int) (s22 : Int) (s23 : Int) : Option Int :=
  bif decide (s23 < s22) then
    bif decide (0 ≤ s23) then
      bif decide (s23 < (↑(List.length r3) : Int)) then
        bif decide (rdk kint r3 s23 < own9) then
          bif decide (0 ≤ IntKind.wrap IntKind.i64 (at7 + rdk kint r3 s23)) then
            bif decide (IntKind.wrap IntKind.i64 (at7 + rdk kint r3 s23) < (↑(List.length r1) : Int)) then
              g2 b0_0 r1 r2 r3 r4
                (IntKind.wrap IntKind.i64 (rank6 + rdk kint r1 (IntKind.wrap IntKind.i64 (at7 + rdk kint r3 s23)))) at7 own9 s15
                s16 s22 (IntKind.wrap IntKind.i64 (s23 + 1))
            else none
          else none
        else g2 b0_0 r1 r2 r3 r4 rank6 at7 own9 s15 s16 s22 (IntKind.wrap IntKind.i64 (s23 + 1))
      else none
    else none
  else g1 b0_0 r1 r2 r3 r4 rank6 (IntKind.wrap IntKind.i64 (at7 + own9)) s15 (IntKind.wrap IntKind.i64 (s16 + 1))
noncomputable def s_clRank_t0 (g1 : Int → List (Int) → List (Int) → List (Int) → List (Int) → Int → Int → Int → Int → Option (Int)) (g2 : Int → List (Int) → List (Int) → List (Int) → List (Int) → Int → Int → Int → Int → Int → Int → Int → Option (Int)) (s0_Steps : Int) (s0_Strides : List Int) (s0_Broken : List Int) (climb1 : List Int) : Option Int :=
  Option.bind (s_clWays s0_Steps s0_Strides s0_Broken) fun r => g1 s0_Steps r climb1 s0_Strides s0_Broken 0 0 (↑(List.length climb1) : Int) 0
theorem s_clRank_ts : Tails c_s_clRank.pts c_s_clRank.round :=
  ⟨fun s => by
    obtain ⟨⟨⟨b0_0, _, _, _⟩, r1, r2, r3, r4, _⟩, ⟨_, _, rank6, at7, _, s15, s16, _⟩, ⟨_, _, _⟩⟩ := s
    refine Tail.eq (Y := fun g => s_clRank_t1 (fun b0_0 r1 r2 r3 r4 rank6 at7 s15 s16 => g.1 (((b0_0, (), (), ()), r1, r2, r3, r4, ()), ((), (), rank6, at7, (), s15, s16, ()), ((), (), ()))) (fun b0_0 r1 r2 r3 r4 rank6 at7 own9 s15 s16 s22 s23 => g.2.1 (((b0_0, (), (), ()), r1, r2, r3, r4, ()), ((), (), rank6, at7, own9, (), s15, s16, (), s22, s23, ()), ((), (), ()))) b0_0 r1 r2 r3 r4 rank6 at7 s15 s16) ?_ (fun g => by kernel_rfl)
    simp only [s_clRank_t1]; repeat (first | exact Tail.const _ | exact Tail.here _ | exact Tail.there (Tail.here _) | exact Tail.there (Tail.there (Tail.here _)) | exact Tail.there (Tail.there (Tail.there (Tail.here _))) | exact Tail.there (Tail.there (Tail.there (Tail.there (Tail.here _)))) | exact Tail.there (Tail.there (Tail.there (Tail.there (Tail.there (Tail.here _))))) | apply Tail.cond | (apply Tail.bind; intro _)),
  fun s => by
    obtain ⟨⟨⟨b0_0, _, _, _⟩, r1, r2, r3, r4, _⟩, ⟨_, _, rank6, at7, own9, _, s15, s16, _, s22, s23, _⟩, ⟨_, _, _⟩⟩ := s
    refine Tail.eq (Y := fun g => s_clRank_t2 (fun b0_0 r1 r2 r3 r4 rank6 at7 s15 s16 => g.1 (((b0_0, (), (), ()), r1, r2, r3, r4, ()), ((), (), rank6, at7, (), s15, s16, ()), ((), (), ()))) (fun b0_0 r1 r2 r3 r4 rank6 at7 own9 s15 s16 s22 s23 => g.2.1 (((b0_0, (), (), ()), r1, r2, r3, r4, ()), ((), (), rank6, at7, own9, (), s15, s16, (), s22, s23, ()), ((), (), ()))) b0_0 r1 r2 r3 r4 rank6 at7 own9 s15 s16 s22 s23) ?_ (fun g => by kernel_rfl)
    simp only [s_clRank_t2]; repeat (first | exact Tail.const _ | exact Tail.here _ | exact Tail.there (Tail.here _) | exact Tail.there (Tail.there (Tail.here _)) | exact Tail.there (Tail.there (Tail.there (Tail.here _))) | exact Tail.there (Tail.there (Tail.there (Tail.there (Tail.here _)))) | exact Tail.there (Tail.there (Tail.there (Tail.there (Tail.there (Tail.here _))))) | apply Tail.cond | (apply Tail.bind; intro _)), trivial⟩
theorem s_clRank_hs : ∀ x, Tail c_s_clRank.pts (fun g => c_s_clRank.start g x) := fun x => by
    obtain ⟨⟨s0_Steps, s0_Strides, s0_Broken⟩, climb1, _⟩ := x
    refine Tail.eq (Y := fun g => s_clRank_t0 (fun b0_0 r1 r2 r3 r4 rank6 at7 s15 s16 => g.1 (((b0_0, (), (), ()), r1, r2, r3, r4, ()), ((), (), rank6, at7, (), s15, s16, ()), ((), (), ()))) (fun b0_0 r1 r2 r3 r4 rank6 at7 own9 s15 s16 s22 s23 => g.2.1 (((b0_0, (), (), ()), r1, r2, r3, r4, ()), ((), (), rank6, at7, own9, (), s15, s16, (), s22, s23, ()), ((), (), ()))) s0_Steps s0_Strides s0_Broken climb1) ?_ (fun g => by kernel_rfl)
    simp only [s_clRank_t0]; repeat (first | exact Tail.const _ | exact Tail.here _ | exact Tail.there (Tail.here _) | exact Tail.there (Tail.there (Tail.here _)) | exact Tail.there (Tail.there (Tail.there (Tail.here _))) | exact Tail.there (Tail.there (Tail.there (Tail.there (Tail.here _)))) | exact Tail.there (Tail.there (Tail.there (Tail.there (Tail.there (Tail.here _))))) | apply Tail.cond | (apply Tail.bind; intro _))
noncomputable def s_clRank_L1 (b0_0 : Int) (r1 : List (Int)) (r2 : List (Int)) (r3 : List (Int)) (r4 : List (Int)) (rank6 : Int) (at7 : Int) (s15 : Int) (s16 : Int) : Option Int := c_s_clRank.L.1 (((b0_0, (), (), ()), r1, r2, r3, r4, ()), ((), (), rank6, at7, (), s15, s16, ()), ((), (), ()))
noncomputable def s_clRank_L2 (b0_0 : Int) (r1 : List (Int)) (r2 : List (Int)) (r3 : List (Int)) (r4 : List (Int)) (rank6 : Int) (at7 : Int) (own9 : Int) (s15 : Int) (s16 : Int) (s22 : Int) (s23 : Int) : Option Int := c_s_clRank.L.2.1 (((b0_0, (), (), ()), r1, r2, r3, r4, ()), ((), (), rank6, at7, own9, (), s15, s16, (), s22, s23, ()), ((), (), ()))
theorem s_clRank_u1 (b0_0 : Int) (r1 : List (Int)) (r2 : List (Int)) (r3 : List (Int)) (r4 : List (Int)) (rank6 : Int) (at7 : Int) (s15 : Int) (s16 : Int) : s_clRank_L1 b0_0 r1 r2 r3 r4 rank6 at7 s15 s16 = s_clRank_t1 s_clRank_L1 s_clRank_L2 b0_0 r1 r2 r3 r4 rank6 at7 s15 s16 :=
  (congrArg (fun g => g.1 (((b0_0, (), (), ()), r1, r2, r3, r4, ()), ((), (), rank6, at7, (), s15, s16, ()), ((), (), ()))) (FnCx.L_eq s_clRank_ts)).trans (by kernel_rfl)
theorem s_clRank_u2 (b0_0 : Int) (r1 : List (Int)) (r2 : List (Int)) (r3 : List (Int)) (r4 : List (Int)) (rank6 : Int) (at7 : Int) (own9 : Int) (s15 : Int) (s16 : Int) (s22 : Int) (s23 : Int) : s_clRank_L2 b0_0 r1 r2 r3 r4 rank6 at7 own9 s15 s16 s22 s23 = s_clRank_t2 s_clRank_L1 s_clRank_L2 b0_0 r1 r2 r3 r4 rank6 at7 own9 s15 s16 s22 s23 :=
  (congrArg (fun g => g.2.1 (((b0_0, (), (), ()), r1, r2, r3, r4, ()), ((), (), rank6, at7, own9, (), s15, s16, (), s22, s23, ()), ((), (), ()))) (FnCx.L_eq s_clRank_ts)).trans (by kernel_rfl)
noncomputable def s_clRank (s0_Steps : Int) (s0_Strides : List Int) (s0_Broken : List Int) (climb1 : List Int) : Option Int := s_clRank_t0 s_clRank_L1 s_clRank_L2 s0_Steps s0_Strides s0_Broken climb1
theorem s_clRank_e (s0_Steps : Int) (s0_Strides : List Int) (s0_Broken : List Int) (climb1 : List Int) : c_s_clRank.start c_s_clRank.L ((s0_Steps, s0_Strides, s0_Broken), climb1, ()) = s_clRank s0_Steps s0_Strides s0_Broken climb1 := by kernel_rfl
noncomputable def F_s_clRank : Ins c_s_clRank.ins → Option Int := fun x => s_clRank x.1.1 x.1.2.1 x.1.2.2 x.2.1
noncomputable def S_s_clRank : FSpec := mkF c_s_clRank.env.pre c_s_clRank.ins c_s_clRank.out c_s_clRank.inj F_s_clRank
theorem h_s_clRank : Cert Try.prog 257 S_s_clRank := FnCx.certF (c := c_s_clRank) F_s_clRank (tyOk _ _ _) (spOk ⟨h_s_clWays, fun _ _ _ => trivial, trivial⟩) (fun _ _ _ _ _ hs => noDr_ok) Try.func257 rfl rfl Try.ntmps257 (by kernel_rfl) rfl rfl (fun _ => rfl) s_clRank_ts s_clRank_hs (fun x t hb ht => by
  obtain ⟨⟨s0_Steps, s0_Strides, s0_Broken⟩, climb1, _⟩ := x
  exact (s_clRank_e s0_Steps s0_Strides s0_Broken climb1).trans ht)
/-! spec.RankOfClimb -/
noncomputable def c_s_RankOfClimb : FnCx := { env := env 18 [(256, S_s_clBoth), (243, S_s_clCounted), (257, S_s_clRank)] [], body := bodyOf Try.f147, res := [.tmp 4, .tmp 5], ins := [.ro kStairs, .ro kSint], out := [(kint, true), (kbool, true)], T := Int × Bool, fin := fun r => (r.1.1, r.1.2.1), inj := fun t => ((t.1, t.2, ()), ((), (), ())), pts := [], fuel := 400, dr := noDr }
noncomputable def s_RankOfClimb (s0_Steps : Int) (s0_Strides : List Int) (s0_Broken : List Int) (climb1 : List Int) : Option (Int × Bool) :=
  Option.bind (s_clBoth s0_Steps s0_Strides s0_Broken climb1) fun r =>
    bif !r then some (0, false)
    else
      Option.bind (s_clCounted s0_Steps s0_Strides s0_Broken) fun r =>
        bif !r then some (0, false) else Option.bind (s_clRank s0_Steps s0_Strides s0_Broken climb1) fun r => some (r, true)
theorem s_RankOfClimb_e (s0_Steps : Int) (s0_Strides : List Int) (s0_Broken : List Int) (climb1 : List Int) : c_s_RankOfClimb.start c_s_RankOfClimb.L ((s0_Steps, s0_Strides, s0_Broken), climb1, ()) = s_RankOfClimb s0_Steps s0_Strides s0_Broken climb1 := by kernel_rfl
noncomputable def F_s_RankOfClimb : Ins c_s_RankOfClimb.ins → Option (Int × Bool) := fun x => s_RankOfClimb x.1.1 x.1.2.1 x.1.2.2 x.2.1
noncomputable def S_s_RankOfClimb : FSpec := mkF c_s_RankOfClimb.env.pre c_s_RankOfClimb.ins c_s_RankOfClimb.out c_s_RankOfClimb.inj F_s_RankOfClimb
theorem h_s_RankOfClimb : Cert Try.prog 147 S_s_RankOfClimb := FnCx.certF (c := c_s_RankOfClimb) F_s_RankOfClimb (tyOk _ _ _) (spOk ⟨h_s_clBoth, fun _ _ _ => trivial, ⟨h_s_clCounted, fun _ _ _ => trivial, ⟨h_s_clRank, fun _ _ _ => trivial, trivial⟩⟩⟩) (fun _ _ _ _ _ hs => noDr_ok) Try.func147 rfl rfl Try.ntmps147 (by kernel_rfl) rfl rfl (fun _ => rfl) trivial (fun x => .inl ⟨c_s_RankOfClimb.start () x, fun _ => rfl⟩) (fun x t hb ht => by
  obtain ⟨⟨s0_Steps, s0_Strides, s0_Broken⟩, climb1, _⟩ := x
  exact (s_RankOfClimb_e s0_Steps s0_Strides s0_Broken climb1).trans ht)
/-! spec.NextClimb -/
noncomputable def c_s_NextClimb : FnCx := { env := env 22 [(147, S_s_RankOfClimb), (130, S_s_ClimbOfRank)] [], body := bodyOf Try.f151, res := [.tmp 4, .tmp 5], ins := [.ro kStairs, .ro kSint], out := [(kSint, true), (kbool, true)], T := List Int × Bool, fin := fun r => (r.1.1, r.1.2.1), inj := fun t => ((t.1, t.2, ()), ((), (), ())), pts := [], fuel := 400, dr := noDr }
noncomputable def s_NextClimb (s0_Steps : Int) (s0_Strides : List Int) (s0_Broken : List Int) (climb1 : List Int) : Option (List Int × Bool) :=
  Option.bind (s_RankOfClimb s0_Steps s0_Strides s0_Broken climb1) fun r =>
    bif !Prod.snd r then some ([], false)
    else Option.bind (s_ClimbOfRank s0_Steps s0_Strides s0_Broken (IntKind.wrap IntKind.i64 (Prod.fst r + 1))) fun r => some (Prod.fst r, Prod.snd r)
theorem s_NextClimb_e (s0_Steps : Int) (s0_Strides : List Int) (s0_Broken : List Int) (climb1 : List Int) : c_s_NextClimb.start c_s_NextClimb.L ((s0_Steps, s0_Strides, s0_Broken), climb1, ()) = s_NextClimb s0_Steps s0_Strides s0_Broken climb1 := by kernel_rfl
noncomputable def F_s_NextClimb : Ins c_s_NextClimb.ins → Option (List Int × Bool) := fun x => s_NextClimb x.1.1 x.1.2.1 x.1.2.2 x.2.1
noncomputable def S_s_NextClimb : FSpec := mkF c_s_NextClimb.env.pre c_s_NextClimb.ins c_s_NextClimb.out c_s_NextClimb.inj F_s_NextClimb
theorem h_s_NextClimb : Cert Try.prog 151 S_s_NextClimb := FnCx.certF (c := c_s_NextClimb) F_s_NextClimb (tyOk _ _ _) (spOk ⟨h_s_RankOfClimb, fun _ _ _ => trivial, ⟨h_s_ClimbOfRank, fun _ _ _ => trivial, trivial⟩⟩) (fun _ _ _ _ _ hs => noDr_ok) Try.func151 rfl rfl Try.ntmps151 (by kernel_rfl) rfl rfl (fun _ => rfl) trivial (fun x => .inl ⟨c_s_NextClimb.start () x, fun _ => rfl⟩) (fun x t hb ht => by
  obtain ⟨⟨s0_Steps, s0_Strides, s0_Broken⟩, climb1, _⟩ := x
  exact (s_NextClimb_e s0_Steps s0_Strides s0_Broken climb1).trans ht)
/-! spec.clMany -/
noncomputable def c_s_clMany : FnCx := { env := env 70 [(282, S_s_clStands), (190, S_s_l1Least)] [], body := bodyOf Try.f259, res := [.tmp 4], ins := [.ro kStairs, .ro kint], out := [(kint, true)], T := Int, fin := fun r => r.1.1, inj := fun t => ((t, ()), ((), (), ())), pts := [([.inLoop [1, 1, 1, 0, 0, 0], .inBlock 0, .code [1, 1, 1, 1]], Shape.mk [Bs.box 96 [Cs.sc kint, Cs.sl 2, Cs.sl 3], Bs.row kint 3 true, Bs.row kint 3 false, Bs.row kint 3 false] [(1, Ss.one (Cs.sc kint)), (2, Ss.one (Cs.ptr 0 0)), (5, Ss.one (Cs.sl 1))] [Ss.one (Cs.any), Ss.one (Cs.any)]), ([.inLoop [1, 1, 1, 0, 0, 0, 1, 0, 0, 1, 0, 1, 0, 0], .inBlock 2, .code [1, 1, 1, 0, 0, 0, 1, 0, 0, 1, 1], .inBlock 1, .code [1, 1, 1, 0, 0, 0, 1, 1], .inLoop [1, 1, 1, 0, 0, 0], .inBlock 0, .code [1, 1, 1, 1]], Shape.mk [Bs.box 96 [Cs.sc kint, Cs.sl 3, Cs.sl 4], Bs.row kint 3 true, Bs.row kint 3 true, Bs.row kint 3 false, Bs.row kint 3 false] [(1, Ss.one (Cs.sc kint)), (2, Ss.one (Cs.ptr 0 0)), (6, Ss.one (Cs.sl 1)), (25, Ss.one (Cs.sl 2)), (26, Ss.one (Cs.sc kint)), (27, Ss.one (Cs.sc kint))] [Ss.one (Cs.any), Ss.one (Cs.any)]), ([.inLoop [1, 1, 1, 0, 0, 0, 1, 0, 0, 1, 0, 1, 0, 0, 1, 1, 0, 0, 1, 1, 0, 0], .inBlock 4, .inBlock 3, .code [1, 1, 1, 0, 0, 0, 1, 0, 0, 1, 0, 1, 0, 0, 1, 1, 1], .inLoop [1, 1, 1, 0, 0, 0, 1, 0, 0, 1, 0, 1, 0, 0], .inBlock 2, .code [1, 1, 1, 0, 0, 0, 1, 0, 0, 1, 1], .inBlock 1, .code [1, 1, 1, 0, 0, 0, 1, 1], .inLoop [1, 1, 1, 0, 0, 0], .inBlock 0, .code [1, 1, 1, 1]], Shape.mk [Bs.box 96 [Cs.sc kint, Cs.sl 3, Cs.sl 4], Bs.row kint 3 true, Bs.row kint 3 true, Bs.row kint 3 false, Bs.row kint 3 false] [(1, Ss.one (Cs.sc kint)), (2, Ss.one (Cs.ptr 0 0)), (6, Ss.one (Cs.sl 1)), (7, Ss.one (Cs.sc kint)), (8, Ss.one (Cs.sc kint)), (25, Ss.one (Cs.sl 2)), (26, Ss.one (Cs.sc kint)), (27, Ss.one (Cs.sc kint)), (33, Ss.one (Cs.sl 3)), (34, Ss.one (Cs.sc kint)), (35, Ss.one (Cs.sc kint))] [Ss.one (Cs.any), Ss.one (Cs.any)])], fuel := 400, dr := noDr }
noncomputable def s_clMany_t1 (g1 : Int → List (Int) → List (Int) → List (Int) → Int → Option (Int)) (g2 : Int → List (Int) → List (Int) → List (Int) → List (Int) → Int → Int → Int → Option (Int)) (g3 : Int → List (Int) → List (Int) → List (Int) → List (Int) → Int → Int → Int → Int → Int → Int → Int → Option (Int)) (b0_0 : Int) (r1 : List (Int)) (r2 : List (Int)) (r3 : List (Int)) (many1 : Int) : Option Int :=
  bif decide (many1 > 0) then
    bif IntKind.wrap IntKind.i64 (b0_0 + 1) == IntKind.wrap IntKind.i64 (b0_0 + 1) then
      bif decide (0 ≤ IntKind.wrap IntKind.i64 (b0_0 + 1)) then
        bif decide (IntKind.wrap IntKind.i64 (b0_0 + 1) ≤ (↑4294967296 : Int)) then
          g2 b0_0 (List.replicate (Int.toNat (IntKind.wrap IntKind.i64 (b0_0 + 1))) (Kd.zero kint)) r1 r2 r3 many1 (↑(List.length r1) : Int) 0
        else none
      else none
    else none
  else bif decide (0 ≤ b0_0) then bif decide (b0_0 < (↑(List.length r1) : Int)) then some (rdk kint r1 b0_0) else none else none
noncomputable def s_clMany_t2 (g1 : Int → List (Int) → List (Int) → List (Int) → Int → Option (Int)) (g2 : Int → List (Int) → List (Int) → List (Int) → List (Int) → Int → Int → Int → Option (Int)) (g3 : Int → List (Int) → List (Int) → List (Int) → List (Int) → Int → Int → Int → Int → Int → Int → Int → Option (Int)) (b0_0 : Int) (r1 : List (Int)) (r2 : List (Int)) (r3 : List (Int)) (r4 : List (Int)) (many1 : Int) (s26 : Int) (s27 : Int) : Option Int :=
  bif decide (s27 < s26) then
    bif decide (0 ≤ s27) then
      bif decide (s27 < (↑(List.length r2) : Int)) then g3 b0_0 r1 r2 r3 r4 many1 s27 (rdk kint r2 s27) s26 s27 (↑(List.length r3) : Int) 0
      else none
    else none
  else g1 b0_0 r1 r3 r4 (IntKind.wrap IntKind.i64 (many1 - 1))
noncomputable def s_clMany_t3 (g1 : Int → List (Int) → List (Int) → List (Int) → Int → Option (Int)) (g2 : Int → List (Int) → List (Int) → List (Int) → List (Int) → Int → Int → Int → Option (Int)) (g3 : Int → List (Int) → List (Int) → List (Int) → List (Int) → Int → Int → Int → Int → Int → Int → Int → Option (Int)) (b0_0 : Int) (r1 : List (Int)) (r2 : List (Int)) (r3 : List (Int)) (r4 : List (Int)) (many1 : Int) (at7 : Int) (n8 : Int) (s26 : Int) (s27 : Int) (s34 : Int) (s35 : Int) : Option Int :=
  bif decide (s35 < s34) then
    bif decide (0 ≤ s35) then
      bif decide (s35 < (↑(List.length r3) : Int)) then
        bif decide (n8 > 0) then
          bif s_clStands b0_0 r3 r4 (IntKind.wrap IntKind.i64 (at7 + rdk kint r3 s35)) then
            bif decide (0 ≤ IntKind.wrap IntKind.i64 (at7 + rdk kint r3 s35)) then
              bif decide (IntKind.wrap IntKind.i64 (at7 + rdk kint r3 s35) < (↑(List.length r1) : Int)) then
                bif decide (0 ≤ IntKind.wrap IntKind.i64 (at7 + rdk kint r3 s35)) then
                  bif decide (IntKind.wrap IntKind.i64 (at7 + rdk kint r3 s35) < (↑(List.length r1) : Int)) then
                    g3 b0_0
                      (List.set r1 (Int.toNat (IntKind.wrap IntKind.i64 (at7 + rdk kint r3 s35)))
                        (s_l1Least
                          (IntKind.wrap IntKind.i64 (rdk kint r1 (IntKind.wrap IntKind.i64 (at7 + rdk kint r3 s35)) + n8))
                          1000000000000001))
                      r2 r3 r4 many1 at7 n8 s26 s27 s34 (IntKind.wrap IntKind.i64 (s35 + 1))
                  else none
                else none
              else none
            else none
          else g3 b0_0 r1 r2 r3 r4 many1 at7 n8 s26 s27 s34 (IntKind.wrap IntKind.i64 (s35 + 1))
        else g3 b0_0 r1 r2 r3 r4 many1 at7 n8 s26 s27 s34 (IntKind.wrap IntKind.i64 (s35 + 1))
      else none
    else none
  else g2 b0_0 r1 r2 r3 r4 many1 s26 (IntKind.wrap IntKind.i64 (s27 + 1))
noncomputable def s_clMany_t0 (g1 : Int → List (Int) → List (Int) → List (Int) → Int → Option (Int)) (g2 : Int → List (Int) → List (Int) → List (Int) → List (Int) → Int → Int → Int → Option (Int)) (g3 : Int → List (Int) → List (Int) → List (Int) → List (Int) → Int → Int → Int → Int → Int → Int → Int → Option (Int)) (s0_Steps : Int) (s0_Strides : List Int) (s0_Broken : List Int) (many1 : Int) : Option Int :=
  bif IntKind.wrap IntKind.i64 (s0_Steps + 1) == IntKind.wrap IntKind.i64 (s0_Steps + 1) then
    bif decide (0 ≤ IntKind.wrap IntKind.i64 (s0_Steps + 1)) then
      bif decide (IntKind.wrap IntKind.i64 (s0_Steps + 1) ≤ (↑4294967296 : Int)) then
        bif decide (0 < (↑(List.length (List.replicate (Int.toNat (IntKind.wrap IntKind.i64 (s0_Steps + 1))) (Kd.zero kint))) : Int)) then
          g1 s0_Steps (List.set (List.replicate (Int.toNat (IntKind.wrap IntKind.i64 (s0_Steps + 1))) (Kd.zero kint)) (Int.toNat 0) 1) s0_Strides s0_Broken many1
        else none
      else none
    else none
  else none
theorem s_clMany_ts : Tails c_s_clMany.pts c_s_clMany.round :=
  ⟨fun s => by
    obtain ⟨⟨⟨b0_0, _, _, _⟩, r1, r2, r3, _⟩, ⟨many1, _, _, _⟩, ⟨_, _, _⟩⟩ := s
    refine Tail.eq (Y := fun g => s_clMany_t1 (fun b0_0 r1 r2 r3 many1 => g.1 (((b0_0, (), (), ()), r1, r2, r3, ()), (many1, (), (), ()), ((), (), ()))) (fun b0_0 r1 r2 r3 r4 many1 s26 s27 => g.2.1 (((b0_0, (), (), ()), r1, r2, r3, r4, ()), (many1, (), (), (), s26, s27, ()), ((), (), ()))) (fun b0_0 r1 r2 r3 r4 many1 at7 n8 s26 s27 s34 s35 => g.2.2.1 (((b0_0, (), (), ()), r1, r2, r3, r4, ()), (many1, (), (), at7, n8, (), s26, s27, (), s34, s35, ()), ((), (), ()))) b0_0 r1 r2 r3 many1) ?_ (fun g => by kernel_rfl)
    simp only [s_clMany_t1]; repeat (first | exact Tail.const _ | exact Tail.here _ | exact Tail.there (Tail.here _) | exact Tail.there (Tail.there (Tail.here _)) | exact Tail.there (Tail.there (Tail.there (Tail.here _))) | exact Tail.there (Tail.there (Tail.there (Tail.there (Tail.here _)))) | exact Tail.there (Tail.there (Tail.there (Tail.there (Tail.there (Tail.here _))))) | apply Tail.cond | (apply Tail.bind; intro _)),
  fun s => by
    obtain ⟨⟨⟨b0_0, _, _, _⟩, r1, r2, r3, r4, _⟩, ⟨many1, _, _, _, s26, s27, _⟩, ⟨_, _, _⟩⟩ := s
    refine Tail.eq (Y := fun g => s_clMany_t2 (fun b0_0 r1 r2 r3 many1 => g.1 (((b0_0, (), (), ()), r1, r2, r3, ()), (many1, (), (), ()), ((), (), ()))) (fun b0_0 r1 r2 r3 r4 many1 s26 s27 => g.2.1 (((b0_0, (), (), ()), r1, r2, r3, r4, ()), (many1, (), (), (), s26, s27, ()), ((), (), ()))) (fun b0_0 r1 r2 r3 r4 many1 at7 n8 s26 s27 s34 s35 => g.2.2.1 (((b0_0, (), (), ()), r1, r2, r3, r4, ()), (many1, (), (), at7, n8, (), s26, s27, (), s34, s35, ()), ((), (), ()))) b0_0 r1 r2 r3 r4 many1 s26 s27) ?_ (fun g => by kernel_rfl)
    simp only [s_clMany_t2]; repeat (first | exact Tail.const _ | exact Tail.here _ | exact Tail.there (Tail.here _) | exact Tail.there (Tail.there (Tail.here _)) | exact Tail.there (Tail.there (Tail.there (Tail.here _))) | exact Tail.there (Tail.there (Tail.there (Tail.there (Tail.here _)))) | exact Tail.there (Tail.there (Tail.there (Tail.there (Tail.there (Tail.here _))))) | apply Tail.cond | (apply Tail.bind; intro _)),
  fun s => by
    obtain ⟨⟨⟨b0_0, _, _, _⟩, r1, r2, r3, r4, _⟩, ⟨many1, _, _, at7, n8, _, s26, s27, _, s34, s35, _⟩, ⟨_, _, _⟩⟩ := s
    refine Tail.eq (Y := fun g => s_clMany_t3 (fun b0_0 r1 r2 r3 many1 => g.1 (((b0_0, (), (), ()), r1, r2, r3, ()), (many1, (), (), ()), ((), (), ()))) (fun b0_0 r1 r2 r3 r4 many1 s26 s27 => g.2.1 (((b0_0, (), (), ()), r1, r2, r3, r4, ()), (many1, (), (), (), s26, s27, ()), ((), (), ()))) (fun b0_0 r1 r2 r3 r4 many1 at7 n8 s26 s27 s34 s35 => g.2.2.1 (((b0_0, (), (), ()), r1, r2, r3, r4, ()), (many1, (), (), at7, n8, (), s26, s27, (), s34, s35, ()), ((), (), ()))) b0_0 r1 r2 r3 r4 many1 at7 n8 s26 s27 s34 s35) ?_ (fun g => by kernel_rfl)
    simp only [s_clMany_t3]; repeat (first | exact Tail.const _ | exact Tail.here _ | exact Tail.there (Tail.here _) | exact Tail.there (Tail.there (Tail.here _)) | exact Tail.there (Tail.there (Tail.there (Tail.here _))) | exact Tail.there (Tail.there (Tail.there (Tail.there (Tail.here _)))) | exact Tail.there (Tail.there (Tail.there (Tail.there (Tail.there (Tail.here _))))) | apply Tail.cond | (apply Tail.bind; intro _)), trivial⟩
theorem s_clMany_hs : ∀ x, Tail c_s_clMany.pts (fun g => c_s_clMany.start g x) := fun x => by
    obtain ⟨⟨s0_Steps, s0_Strides, s0_Broken⟩, many1, _⟩ := x
    refine Tail.eq (Y := fun g => s_clMany_t0 (fun b0_0 r1 r2 r3 many1 => g.1 (((b0_0, (), (), ()), r1, r2, r3, ()), (many1, (), (), ()), ((), (), ()))) (fun b0_0 r1 r2 r3 r4 many1 s26 s27 => g.2.1 (((b0_0, (), (), ()), r1, r2, r3, r4, ()), (many1, (), (), (), s26, s27, ()), ((), (), ()))) (fun b0_0 r1 r2 r3 r4 many1 at7 n8 s26 s27 s34 s35 => g.2.2.1 (((b0_0, (), (), ()), r1, r2, r3, r4, ()), (many1, (), (), at7, n8, (), s26, s27, (), s34, s35, ()), ((), (), ()))) s0_Steps s0_Strides s0_Broken many1) ?_ (fun g => by kernel_rfl)
    simp only [s_clMany_t0]; repeat (first | exact Tail.const _ | exact Tail.here _ | exact Tail.there (Tail.here _) | exact Tail.there (Tail.there (Tail.here _)) | exact Tail.there (Tail.there (Tail.there (Tail.here _))) | exact Tail.there (Tail.there (Tail.there (Tail.there (Tail.here _)))) | exact Tail.there (Tail.there (Tail.there (Tail.there (Tail.there (Tail.here _))))) | apply Tail.cond | (apply Tail.bind; intro _))
noncomputable def s_clMany_L1 (b0_0 : Int) (r1 : List (Int)) (r2 : List (Int)) (r3 : List (Int)) (many1 : Int) : Option Int := c_s_clMany.L.1 (((b0_0, (), (), ()), r1, r2, r3, ()), (many1, (), (), ()), ((), (), ()))
noncomputable def s_clMany_L2 (b0_0 : Int) (r1 : List (Int)) (r2 : List (Int)) (r3 : List (Int)) (r4 : List (Int)) (many1 : Int) (s26 : Int) (s27 : Int) : Option Int := c_s_clMany.L.2.1 (((b0_0, (), (), ()), r1, r2, r3, r4, ()), (many1, (), (), (), s26, s27, ()), ((), (), ()))
noncomputable def s_clMany_L3 (b0_0 : Int) (r1 : List (Int)) (r2 : List (Int)) (r3 : List (Int)) (r4 : List (Int)) (many1 : Int) (at7 : Int) (n8 : Int) (s26 : Int) (s27 : Int) (s34 : Int) (s35 : Int) : Option Int := c_s_clMany.L.2.2.1 (((b0_0, (), (), ()), r1, r2, r3, r4, ()), (many1, (), (), at7, n8, (), s26, s27, (), s34, s35, ()), ((), (), ()))
theorem s_clMany_u1 (b0_0 : Int) (r1 : List (Int)) (r2 : List (Int)) (r3 : List (Int)) (many1 : Int) : s_clMany_L1 b0_0 r1 r2 r3 many1 = s_clMany_t1 s_clMany_L1 s_clMany_L2 s_clMany_L3 b0_0 r1 r2 r3 many1 :=
  (congrArg (fun g => g.1 (((b0_0, (), (), ()), r1, r2, r3, ()), (many1, (), (), ()), ((), (), ()))) (FnCx.L_eq s_clMany_ts)).trans (by kernel_rfl)
theorem s_clMany_u2 (b0_0 : Int) (r1 : List (Int)) (r2 : List (Int)) (r3 : List (Int)) (r4 : List (Int)) (many1 : Int) (s26 : Int) (s27 : Int) : s_clMany_L2 b0_0 r1 r2 r3 r4 many1 s26 s27 = s_clMany_t2 s_clMany_L1 s_clMany_L2 s_clMany_L3 b0_0 r1 r2 r3 r4 many1 s26 s27 :=
  (congrArg (fun g => g.2.1 (((b0_0, (), (), ()), r1, r2, r3, r4, ()), (many1, (), (), (), s26, s27, ()), ((), (), ()))) (FnCx.L_eq s_clMany_ts)).trans (by kernel_rfl)
theorem s_clMany_u3 (b0_0 : Int) (r1 : List (Int)) (r2 : List (Int)) (r3 : List (Int)) (r4 : List (Int)) (many1 : Int) (at7 : Int) (n8 : Int) (s26 : Int) (s27 : Int) (s34 : Int) (s35 : Int) : s_clMany_L3 b0_0 r1 r2 r3 r4 many1 at7 n8 s26 s27 s34 s35 = s_clMany_t3 s_clMany_L1 s_clMany_L2 s_clMany_L3 b0_0 r1 r2 r3 r4 many1 at7 n8 s26 s27 s34 s35 :=
  (congrArg (fun g => g.2.2.1 (((b0_0, (), (), ()), r1, r2, r3, r4, ()), (many1, (), (), at7, n8, (), s26, s27, (), s34, s35, ()), ((), (), ()))) (FnCx.L_eq s_clMany_ts)).trans (by kernel_rfl)
noncomputable def s_clMany (s0_Steps : Int) (s0_Strides : List Int) (s0_Broken : List Int) (many1 : Int) : Option Int := s_clMany_t0 s_clMany_L1 s_clMany_L2 s_clMany_L3 s0_Steps s0_Strides s0_Broken many1
theorem s_clMany_e (s0_Steps : Int) (s0_Strides : List Int) (s0_Broken : List Int) (many1 : Int) : c_s_clMany.start c_s_clMany.L ((s0_Steps, s0_Strides, s0_Broken), many1, ()) = s_clMany s0_Steps s0_Strides s0_Broken many1 := by kernel_rfl
noncomputable def F_s_clMany : Ins c_s_clMany.ins → Option Int := fun x => s_clMany x.1.1 x.1.2.1 x.1.2.2 x.2.1
noncomputable def S_s_clMany : FSpec := mkF c_s_clMany.env.pre c_s_clMany.ins c_s_clMany.out c_s_clMany.inj F_s_clMany
theorem h_s_clMany : Cert Try.prog 259 S_s_clMany := FnCx.certF (c := c_s_clMany) F_s_clMany (tyOk _ _ _) (spOk ⟨h_s_clStands, fun _ _ _ => trivial, ⟨h_s_l1Least, fun _ _ _ => trivial, trivial⟩⟩) (fun _ _ _ _ _ hs => noDr_ok) Try.func259 rfl rfl Try.ntmps259 (by kernel_rfl) rfl rfl (fun _ => rfl) s_clMany_ts s_clMany_hs (fun x t hb ht => by
  obtain ⟨⟨s0_Steps, s0_Strides, s0_Broken⟩, many1, _⟩ := x
  exact (s_clMany_e s0_Steps s0_Strides s0_Broken many1).trans ht)
/-! spec.CountByStrides -/
noncomputable def c_s_CountByStrides : FnCx := { env := env 20 [(243, S_s_clCounted), (259, S_s_clMany)] [], body := bodyOf Try.f152, res := [.tmp 4, .tmp 5], ins := [.ro kStairs, .ro kint], out := [(kint, true), (kbool, true)], T := Int × Bool, fin := fun r => (r.1.1, r.1.2.1), inj := fun t => ((t.1, t.2, ()), ((), (), ())), pts := [], fuel := 400, dr := noDr }
noncomputable def s_CountByStrides (s0_Steps : Int) (s0_Strides : List Int) (s0_Broken : List Int) (many1 : Int) : Option (Int × Bool) :=
  Option.bind (s_clCounted s0_Steps s0_Strides s0_Broken) fun r =>
    bif !r then some (0, false)
    else
      bif decide (many1 < 0) then some (0, false)
      else bif decide (many1 > s0_Steps) then some (0, true) else Option.bind (s_clMany s0_Steps s0_Strides s0_Broken many1) fun r => some (r, true)
theorem s_CountByStrides_e (s0_Steps : Int) (s0_Strides : List Int) (s0_Broken : List Int) (many1 : Int) : c_s_CountByStrides.start c_s_CountByStrides.L ((s0_Steps, s0_Strides, s0_Broken), many1, ()) = s_CountByStrides s0_Steps s0_Strides s0_Broken many1 := by kernel_rfl
noncomputable def F_s_CountByStrides : Ins c_s_CountByStrides.ins → Option (Int × Bool) := fun x => s_CountByStrides x.1.1 x.1.2.1 x.1.2.2 x.2.1
noncomputable def S_s_CountByStrides : FSpec := mkF c_s_CountByStrides.env.pre c_s_CountByStrides.ins c_s_CountByStrides.out c_s_CountByStrides.inj F_s_CountByStrides
theorem h_s_CountByStrides : Cert Try.prog 152 S_s_CountByStrides := FnCx.certF (c := c_s_CountByStrides) F_s_CountByStrides (tyOk _ _ _) (spOk ⟨h_s_clCounted, fun _ _ _ => trivial, ⟨h_s_clMany, fun _ _ _ => trivial, trivial⟩⟩) (fun _ _ _ _ _ hs => noDr_ok) Try.func152 rfl rfl Try.ntmps152 (by kernel_rfl) rfl rfl (fun _ => rfl) trivial (fun x => .inl ⟨c_s_CountByStrides.start () x, fun _ => rfl⟩) (fun x t hb ht => by
  obtain ⟨⟨s0_Steps, s0_Strides, s0_Broken⟩, many1, _⟩ := x
  exact (s_CountByStrides_e s0_Steps s0_Strides s0_Broken many1).trans ht)
/-! impl.StepsOfClimb -/
noncomputable def c_i_StepsOfClimb : FnCx := { env := env 35 [(245, S_i_AreStairs), (253, S_i_Stairs_isClimb)] [], body := bodyOf Try.f149, res := [.tmp 4, .tmp 5], ins := [.ro kStairs, .ro kSint], out := [(kSint, true), (kbool, true)], T := List Int × Bool, fin := fun r => (r.1.1, r.1.2.1), inj := fun t => ((t.1, t.2, ()), ((), (), ())), pts := [([.inLoop [1, 1, 1, 0, 1, 0, 0], .inBlock 0, .code [1, 1, 1, 1]], Shape.mk [Bs.row kint 3 true, Bs.row kint 3 false] [(6, Ss.one (Cs.sl 0)), (7, Ss.one (Cs.sc kint)), (20, Ss.one (Cs.sl 1)), (21, Ss.one (Cs.sc kint)), (22, Ss.one (Cs.sc kint))] [Ss.one (Cs.any), Ss.one (Cs.any)])], fuel := 400, dr := noDr }
noncomputable def i_StepsOfClimb_t1 (g1 : List (Int) → List (Int) → Int → Int → Int → Option (List Int × Bool)) (r0 : List (Int)) (r1 : List (Int)) (at7 : Int) (s21 : Int) (s22 : Int) : Option (List Int × Bool) :=
  bif decide (s22 < s21) then
    bif decide (0 ≤ s22) then
      bif decide (s22 < (↑(List.length r1) : Int)) then
        bif Nat.ble (List.length r0 + 1) 4294967296 then
          g1 (r0 ++ [IntKind.wrap IntKind.i64 (at7 + rdk kint r1 s22)]) r1 (IntKind.wrap IntKind.i64 (at7 + rdk kint r1 s22)) s21
            (IntKind.wrap IntKind.i64 (s22 + 1))
        else none
      else none
    else none
  else some (r0, true)
noncomputable def i_StepsOfClimb_t0 (g1 : List (Int) → List (Int) → Int → Int → Int → Option (List Int × Bool)) (s0_Steps : Int) (s0_Strides : List Int) (s0_Broken : List Int) (climb1 : List Int) : Option (List Int × Bool) :=
  bif !i_AreStairs s0_Steps s0_Strides s0_Broken then some ([], false)
  else
    Option.bind (i_Stairs_isClimb s0_Steps s0_Strides s0_Broken climb1) fun r => bif !r then some ([], false) else g1 [] climb1 0 (↑(List.length climb1) : Int) 0
theorem i_StepsOfClimb_ts : Tails c_i_StepsOfClimb.pts c_i_StepsOfClimb.round :=
  ⟨fun s => by
    obtain ⟨⟨r0, r1, _⟩, ⟨_, at7, _, s21, s22, _⟩, ⟨_, _, _⟩⟩ := s
    refine Tail.eq (Y := fun g => i_StepsOfClimb_t1 (fun r0 r1 at7 s21 s22 => g.1 ((r0, r1, ()), ((), at7, (), s21, s22, ()), ((), (), ()))) r0 r1 at7 s21 s22) ?_ (fun g => by kernel_rfl)
    simp only [i_StepsOfClimb_t1]; repeat (first | exact Tail.const _ | exact Tail.here _ | exact Tail.there (Tail.here _) | exact Tail.there (Tail.there (Tail.here _)) | exact Tail.there (Tail.there (Tail.there (Tail.here _))) | exact Tail.there (Tail.there (Tail.there (Tail.there (Tail.here _)))) | exact Tail.there (Tail.there (Tail.there (Tail.there (Tail.there (Tail.here _))))) | apply Tail.cond | (apply Tail.bind; intro _)), trivial⟩
theorem i_StepsOfClimb_hs : ∀ x, Tail c_i_StepsOfClimb.pts (fun g => c_i_StepsOfClimb.start g x) := fun x => by
    obtain ⟨⟨s0_Steps, s0_Strides, s0_Broken⟩, climb1, _⟩ := x
    refine Tail.eq (Y := fun g => i_StepsOfClimb_t0 (fun r0 r1 at7 s21 s22 => g.1 ((r0, r1, ()), ((), at7, (), s21, s22, ()), ((), (), ()))) s0_Steps s0_Strides s0_Broken climb1) ?_ (fun g => by kernel_rfl)
    simp only [i_StepsOfClimb_t0]; repeat (first | exact Tail.const _ | exact Tail.here _ | exact Tail.there (Tail.here _) | exact Tail.there (Tail.there (Tail.here _)) | exact Tail.there (Tail.there (Tail.there (Tail.here _))) | exact Tail.there (Tail.there (Tail.there (Tail.there (Tail.here _)))) | exact Tail.there (Tail.there (Tail.there (Tail.there (Tail.there (Tail.here _))))) | apply Tail.cond | (apply Tail.bind; intro _))
noncomputable def i_StepsOfClimb_L1 (r0 : List (Int)) (r1 : List (Int)) (at7 : Int) (s21 : Int) (s22 : Int) : Option (List Int × Bool) := c_i_StepsOfClimb.L.1 ((r0, r1, ()), ((), at7, (), s21, s22, ()), ((), (), ()))
theorem i_StepsOfClimb_u1 (r0 : List (Int)) (r1 : List (Int)) (at7 : Int) (s21 : Int) (s22 : Int) : i_StepsOfClimb_L1 r0 r1 at7 s21 s22 = i_StepsOfClimb_t1 i_StepsOfClimb_L1 r0 r1 at7 s21 s22 :=
  (congrArg (fun g => g.1 ((r0, r1, ()), ((), at7, (), s21, s22, ()), ((), (), ()))) (FnCx.L_eq i_StepsOfClimb_ts)).trans (by kernel_rfl)
noncomputable def i_StepsOfClimb (s0_Steps : Int) (s0_Strides : List Int) (s0_Broken : List Int) (climb1 : List Int) : Option (List Int × Bool) := i_StepsOfClimb_t0 i_StepsOfClimb_L1 s0_Steps s0_Strides s0_Broken climb1
theorem i_StepsOfClimb_e (s0_Steps : Int) (s0_Strides : List Int) (s0_Broken : List Int) (climb1 : List Int) : c_i_StepsOfClimb.start c_i_StepsOfClimb.L ((s0_Steps, s0_Strides, s0_Broken), climb1, ()) = i_StepsOfClimb s0_Steps s0_Strides s0_Broken climb1 := by kernel_rfl
noncomputable def F_i_StepsOfClimb : Ins c_i_StepsOfClimb.ins → Option (List Int × Bool) := fun x => i_StepsOfClimb x.1.1 x.1.2.1 x.1.2.2 x.2.1
noncomputable def S_i_StepsOfClimb : FSpec := mkF c_i_StepsOfClimb.env.pre c_i_StepsOfClimb.ins c_i_StepsOfClimb.out c_i_StepsOfClimb.inj F_i_StepsOfClimb
theorem h_i_StepsOfClimb : Cert Try.prog 149 S_i_StepsOfClimb := FnCx.certF (c := c_i_StepsOfClimb) F_i_StepsOfClimb (tyOk _ _ _) (spOk ⟨h_i_AreStairs, fun _ _ _ => trivial, ⟨h_i_Stairs_isClimb, fun _ _ _ => trivial, trivial⟩⟩) (fun _ _ _ _ _ hs => noDr_ok) Try.func149 rfl rfl Try.ntmps149 (by kernel_rfl) rfl rfl (fun _ => rfl) i_StepsOfClimb_ts i_StepsOfClimb_hs (fun x t hb ht => by
  obtain ⟨⟨s0_Steps, s0_Strides, s0_Broken⟩, climb1, _⟩ := x
  exact (i_StepsOfClimb_e s0_Steps s0_Strides s0_Broken climb1).trans ht)
/-! spec.StepsOfClimb -/
noncomputable def c_s_StepsOfClimb : FnCx := { env := env 29 [(256, S_s_clBoth)] [], body := bodyOf Try.f150, res := [.tmp 4, .tmp 5], ins := [.ro kStairs, .ro kSint], out := [(kSint, true), (kbool, true)], T := List Int × Bool, fin := fun r => (r.1.1, r.1.2.1), inj := fun t => ((t.1, t.2, ()), ((), (), ())), pts := [([.inLoop [1, 1, 1, 1, 0, 1, 0, 0], .inBlock 0, .code [1, 1, 1, 1, 1]], Shape.mk [Bs.row kint 3 true, Bs.row kint 3 false] [(6, Ss.one (Cs.sl 0)), (7, Ss.one (Cs.sc kint)), (14, Ss.one (Cs.sl 1)), (15, Ss.one (Cs.sc kint)), (16, Ss.one (Cs.sc kint))] [Ss.one (Cs.any), Ss.one (Cs.any)])], fuel := 400, dr := noDr }
noncomputable def s_StepsOfClimb_t1 (g1 : List (Int) → List (Int) → Int → Int → Int → Option (List Int × Bool)) (r0 : List (Int)) (r1 : List (Int)) (at7 : Int) (s15 : Int) (s16 : Int) : Option (List Int × Bool) :=
  bif decide (s16 < s15) then
    bif decide (0 ≤ s16) then
      bif decide (s16 < (↑(List.length r1) : Int)) then
        bif Nat.ble (List.length r0 + 1) 4294967296 then
          g1 (r0 ++ [IntKind.wrap IntKind.i64 (at7 + rdk kint r1 s16)]) r1 (IntKind.wrap IntKind.i64 (at7 + rdk kint r1 s16)) s15
            (IntKind.wrap IntKind.i64 (s16 + 1))
        else none
      else none
    else none
  else some (r0, true)
noncomputable def s_StepsOfClimb_t0 (g1 : List (Int) → List (Int) → Int → Int → Int → Option (List Int × Bool)) (s0_Steps : Int) (s0_Strides : List Int) (s0_Broken : List Int) (climb1 : List Int) : Option (List Int × Bool) :=
  Option.bind (s_clBoth s0_Steps s0_Strides s0_Broken climb1) fun r => bif !r then some ([], false) else g1 [] climb1 0 (↑(List.length climb1) : Int) 0
theorem s_StepsOfClimb_ts : Tails c_s_StepsOfClimb.pts c_s_StepsOfClimb.round :=
  ⟨fun s => by
    obtain ⟨⟨r0, r1, _⟩, ⟨_, at7, _, s15, s16, _⟩, ⟨_, _, _⟩⟩ := s
    refine Tail.eq (Y := fun g => s_StepsOfClimb_t1 (fun r0 r1 at7 s15 s16 => g.1 ((r0, r1, ()), ((), at7, (), s15, s16, ()), ((), (), ()))) r0 r1 at7 s15 s16) ?_ (fun g => by kernel_rfl)
    simp only [s_StepsOfClimb_t1]; repeat (first | exact Tail.const _ | exact Tail.here _ | exact Tail.there (Tail.here _) | exact Tail.there (Tail.there (Tail.here _)) | exact Tail.there (Tail.there (Tail.there (Tail.here _))) | exact Tail.there (Tail.there (Tail.there (Tail.there (Tail.here _)))) | exact Tail.there (Tail.there (Tail.there (Tail.there (Tail.there (Tail.here _))))) | apply Tail.cond | (apply Tail.bind; intro _)), trivial⟩
theorem s_StepsOfClimb_hs : ∀ x, Tail c_s_StepsOfClimb.pts (fun g => c_s_StepsOfClimb.start g x) := fun x => by
    obtain ⟨⟨s0_Steps, s0_Strides, s0_Broken⟩, climb1, _⟩ := x
    refine Tail.eq (Y := fun g => s_StepsOfClimb_t0 (fun r0 r1 at7 s15 s16 => g.1 ((r0, r1, ()), ((), at7, (), s15, s16, ()), ((), (), ()))) s0_Steps s0_Strides s0_Broken climb1) ?_ (fun g => by kernel_rfl)
    simp only [s_StepsOfClimb_t0]; repeat (first | exact Tail.const _ | exact Tail.here _ | exact Tail.there (Tail.here _) | exact Tail.there (Tail.there (Tail.here _)) | exact Tail.there (Tail.there (Tail.there (Tail.here _))) | exact Tail.there (Tail.there (Tail.there (Tail.there (Tail.here _)))) | exact Tail.there (Tail.there (Tail.there (Tail.there (Tail.there (Tail.here _))))) | apply Tail.cond | (apply Tail.bind; intro _))
noncomputable def s_StepsOfClimb_L1 (r0 : List (Int)) (r1 : List (Int)) (at7 : Int) (s15 : Int) (s16 : Int) : Option (List Int × Bool) := c_s_StepsOfClimb.L.1 ((r0, r1, ()), ((), at7, (), s15, s16, ()), ((), (), ()))
theorem s_StepsOfClimb_u1 (r0 : List (Int)) (r1 : List (Int)) (at7 : Int) (s15 : Int) (s16 : Int) : s_StepsOfClimb_L1 r0 r1 at7 s15 s16 = s_StepsOfClimb_t1 s_StepsOfClimb_L1 r0 r1 at7 s15 s16 :=
  (congrArg (fun g => g.1 ((r0, r1, ()), ((), at7, (), s15, s16, ()), ((), (), ()))) (FnCx.L_eq s_StepsOfClimb_ts)).trans (by kernel_rfl)
noncomputable def s_StepsOfClimb (s0_Steps : Int) (s0_Strides : List Int) (s0_Broken : List Int) (climb1 : List Int) : Option (List Int × Bool) := s_StepsOfClimb_t0 s_StepsOfClimb_L1 s0_Steps s0_Strides s0_Broken climb1
theorem s_StepsOfClimb_e (s0_Steps : Int) (s0_Strides : List Int) (s0_Broken : List Int) (climb1 : List Int) : c_s_StepsOfClimb.start c_s_StepsOfClimb.L ((s0_Steps, s0_Strides, s0_Broken), climb1, ()) = s_StepsOfClimb s0_Steps s0_Strides s0_Broken climb1 := by kernel_rfl
noncomputable def F_s_StepsOfClimb : Ins c_s_StepsOfClimb.ins → Option (List Int × Bool) := fun x => s_StepsOfClimb x.1.1 x.1.2.1 x.1.2.2 x.2.1
noncomputable def S_s_StepsOfClimb : FSpec := mkF c_s_StepsOfClimb.env.pre c_s_StepsOfClimb.ins c_s_StepsOfClimb.out c_s_StepsOfClimb.inj F_s_StepsOfClimb
theorem h_s_StepsOfClimb : Cert Try.prog 150 S_s_StepsOfClimb := FnCx.certF (c := c_s_StepsOfClimb) F_s_StepsOfClimb (tyOk _ _ _) (spOk ⟨h_s_clBoth, fun _ _ _ => trivial, trivial⟩) (fun _ _ _ _ _ hs => noDr_ok) Try.func150 rfl rfl Try.ntmps150 (by kernel_rfl) rfl rfl (fun _ => rfl) s_StepsOfClimb_ts s_StepsOfClimb_hs (fun x t hb ht => by
  obtain ⟨⟨s0_Steps, s0_Strides, s0_Broken⟩, climb1, _⟩ := x
  exact (s_StepsOfClimb_e s0_Steps s0_Strides s0_Broken climb1).trans ht)
/-! spec.IsClimb -/
noncomputable def c_s_IsClimb : FnCx := { env := env 12 [(247, S_s_clGood), (258, S_s_clIs)] [], body := bodyOf Try.f148, res := [.tmp 4, .tmp 5], ins := [.ro kStairs, .ro kSint], out := [(kbool, true), (kbool, true)], T := Bool × Bool, fin := fun r => (r.1.1, r.1.2.1), inj := fun t => ((t.1, t.2, ()), ((), (), ())), pts := [], fuel := 400, dr := noDr }
noncomputable def s_IsClimb (s0_Steps : Int) (s0_Strides : List Int) (s0_Broken : List Int) (climb1 : List Int) : Option (Bool × Bool) :=
  bif !s_clGood s0_Steps s0_Strides s0_Broken then some (false, false) else Option.bind (s_clIs s0_Steps s0_Strides s0_Broken climb1) fun r => some (r, true)
theorem s_IsClimb_e (s0_Steps : Int) (s0_Strides : List Int) (s0_Broken : List Int) (climb1 : List Int) : c_s_IsClimb.start c_s_IsClimb.L ((s0_Steps, s0_Strides, s0_Broken), climb1, ()) = s_IsClimb s0_Steps s0_Strides s0_Broken climb1 := by kernel_rfl
noncomputable def F_s_IsClimb : Ins c_s_IsClimb.ins → Option (Bool × Bool) := fun x => s_IsClimb x.1.1 x.1.2.1 x.1.2.2 x.2.1
noncomputable def S_s_IsClimb : FSpec := mkF c_s_IsClimb.env.pre c_s_IsClimb.ins c_s_IsClimb.out c_s_IsClimb.inj F_s_IsClimb
theorem h_s_IsClimb : Cert Try.prog 148 S_s_IsClimb := FnCx.certF (c := c_s_IsClimb) F_s_IsClimb (tyOk _ _ _) (spOk ⟨h_s_clGood, fun _ _ _ => trivial, ⟨h_s_clIs, fun _ _ _ => trivial, trivial⟩⟩) (fun _ _ _ _ _ hs => noDr_ok) Try.func148 rfl rfl Try.ntmps148 (by kernel_rfl) rfl rfl (fun _ => rfl) trivial (fun x => .inl ⟨c_s_IsClimb.start () x, fun _ => rfl⟩) (fun x t hb ht => by
  obtain ⟨⟨s0_Steps, s0_Strides, s0_Broken⟩, climb1, _⟩ := x
  exact (s_IsClimb_e s0_Steps s0_Strides s0_Broken climb1).trans ht)
/-! laws.lBefore -/
noncomputable def c_w_lBefore : FnCx := { env := env 41 [] [], body := bodyOf Try.f144, res := [.tmp 4], ins := [.ro kSint, .ro kSint], out := [(kbool, true)], T := Bool, fin := fun r => r.1.1, inj := fun t => ((t, ()), ((), (), ())), pts := [([.inLoop [1, 0, 1, 0, 0], .inBlock 0, .code [1, 1]], Shape.mk [Bs.row kint 3 false, Bs.row kint 3 false] [(0, Ss.one (Cs.sl 0)), (1, Ss.one (Cs.sl 1)), (5, Ss.one (Cs.sc kint))] [Ss.one (Cs.any), Ss.one (Cs.any)])], fuel := 400, dr := evDr (env 41 [] []) }
noncomputable def w_lBefore_t1 (g1 : List (Int) → List (Int) → Int → Option (Bool)) (r0 : List (Int)) (r1 : List (Int)) (i5 : Int) : Option Bool :=
  bif decide (i5 < (↑(List.length r0) : Int)) then
    bif decide (i5 < (↑(List.length r1) : Int)) then
      bif decide (0 ≤ i5) then
        bif decide (i5 < (↑(List.length r0) : Int)) then
          bif decide (0 ≤ i5) then
            bif decide (i5 < (↑(List.length r1) : Int)) then
              bif rdk kint r0 i5 != rdk kint r1 i5 then
                bif decide (0 ≤ i5) then
                  bif decide (i5 < (↑(List.length r0) : Int)) then
                    bif decide (0 ≤ i5) then
                      bif decide (i5 < (↑(List.length r1) : Int)) then some (decide (rdk kint r0 i5 < rdk kint r1 i5)) else none
                    else none
                  else none
                else none
              else g1 r0 r1 (IntKind.wrap IntKind.i64 (i5 + 1))
            else none
          else none
        else none
      else none
    else some (decide ((↑(List.length r0) : Int) ≤ (↑(List.length r1) : Int)))
  else some (decide ((↑(List.length r0) : Int) ≤ (↑(List.length r1) : Int)))
noncomputable def w_lBefore_t0 (g1 : List (Int) → List (Int) → Int → Option (Bool)) (a0 : List Int) (b1 : List Int) : Option Bool :=
  g1 a0 b1 0
theorem w_lBefore_ts : Tails c_w_lBefore.pts c_w_lBefore.round :=
  ⟨fun s => by
    obtain ⟨⟨r0, r1, _⟩, ⟨_, _, i5, _⟩, ⟨_, _, _⟩⟩ := s
    refine Tail.eq (Y := fun g => w_lBefore_t1 (fun r0 r1 i5 => g.1 ((r0, r1, ()), ((), (), i5, ()), ((), (), ()))) r0 r1 i5) ?_ (fun g => by kernel_rfl)
    simp only [w_lBefore_t1]; repeat (first | exact Tail.const _ | exact Tail.here _ | exact Tail.there (Tail.here _) | exact Tail.there (Tail.there (Tail.here _)) | exact Tail.there (Tail.there (Tail.there (Tail.here _))) | exact Tail.there (Tail.there (Tail.there (Tail.there (Tail.here _)))) | exact Tail.there (Tail.there (Tail.there (Tail.there (Tail.there (Tail.here _))))) | apply Tail.cond | (apply Tail.bind; intro _)), trivial⟩
theorem w_lBefore_hs : ∀ x, Tail c_w_lBefore.pts (fun g => c_w_lBefore.start g x) := fun x => by
    obtain ⟨a0, b1, _⟩ := x
    refine Tail.eq (Y := fun g => w_lBefore_t0 (fun r0 r1 i5 => g.1 ((r0, r1, ()), ((), (), i5, ()), ((), (), ()))) a0 b1) ?_ (fun g => by kernel_rfl)
    simp only [w_lBefore_t0]; repeat (first | exact Tail.const _ | exact Tail.here _ | exact Tail.there (Tail.here _) | exact Tail.there (Tail.there (Tail.here _)) | exact Tail.there (Tail.there (Tail.there (Tail.here _))) | exact Tail.there (Tail.there (Tail.there (Tail.there (Tail.here _)))) | exact Tail.there (Tail.there (Tail.there (Tail.there (Tail.there (Tail.here _))))) | apply Tail.cond | (apply Tail.bind; intro _))
noncomputable def w_lBefore_L1 (r0 : List (Int)) (r1 : List (Int)) (i5 : Int) : Option Bool := c_w_lBefore.L.1 ((r0, r1, ()), ((), (), i5, ()), ((), (), ()))
theorem w_lBefore_u1 (r0 : List (Int)) (r1 : List (Int)) (i5 : Int) : w_lBefore_L1 r0 r1 i5 = w_lBefore_t1 w_lBefore_L1 r0 r1 i5 :=
  (congrArg (fun g => g.1 ((r0, r1, ()), ((), (), i5, ()), ((), (), ()))) (FnCx.L_eq w_lBefore_ts)).trans (by kernel_rfl)
noncomputable def w_lBefore (a0 : List Int) (b1 : List Int) : Option Bool := w_lBefore_t0 w_lBefore_L1 a0 b1
theorem w_lBefore_e (a0 : List Int) (b1 : List Int) : c_w_lBefore.start c_w_lBefore.L (a0, b1, ()) = w_lBefore a0 b1 := by kernel_rfl
noncomputable def F_w_lBefore : Ins c_w_lBefore.ins → Option Bool := fun x => w_lBefore x.1 x.2.1
noncomputable def S_w_lBefore : FSpec := mkF c_w_lBefore.env.pre c_w_lBefore.ins c_w_lBefore.out c_w_lBefore.inj F_w_lBefore
theorem h_w_lBefore : Cert Try.prog 144 S_w_lBefore := FnCx.certF (c := c_w_lBefore) F_w_lBefore (tyOk _ _ _) (spOk trivial) (fun _ _ _ _ _ hs => evDr_ok (tyOk _ _ _) hs follows) Try.func144 rfl rfl Try.ntmps144 (by kernel_rfl) rfl rfl (fun _ => rfl) w_lBefore_ts w_lBefore_hs (fun x t hb ht => by
  obtain ⟨a0, b1, _⟩ := x
  exact (w_lBefore_e a0 b1).trans ht)
/-! laws.lSame -/
noncomputable def c_w_lSame : FnCx := { env := env 26 [] [], body := bodyOf Try.f78, res := [.tmp 4], ins := [.ro kSint, .ro kSint], out := [(kbool, true)], T := Bool, fin := fun r => r.1.1, inj := fun t => ((t, ()), ((), (), ())), pts := [([.inLoop [1, 1, 0, 1, 0, 0], .inBlock 0, .code [1, 1, 1]], Shape.mk [Bs.row kint 3 false, Bs.row kint 3 false] [(0, Ss.one (Cs.sl 0)), (1, Ss.one (Cs.sl 1)), (12, Ss.one (Cs.sc kint)), (13, Ss.one (Cs.sc kint))] [Ss.one (Cs.any), Ss.one (Cs.any)])], fuel := 400, dr := evDr (env 26 [] []) }
noncomputable def w_lSame_t1 (g1 : List (Int) → List (Int) → Int → Int → Option (Bool)) (r0 : List (Int)) (r1 : List (Int)) (s12 : Int) (s13 : Int) : Option Bool :=
  bif decide (s13 < s12) then
    bif decide (0 ≤ s13) then
      bif decide (s13 < (↑(List.length r0) : Int)) then
        bif decide (0 ≤ s13) then
          bif decide (s13 < (↑(List.length r1) : Int)) then
            bif rdk kint r0 s13 != rdk kint r1 s13 then some false else g1 r0 r1 s12 (IntKind.wrap IntKind.i64 (s13 + 1))
          else none
        else none
      else none
    else none
  else some true
noncomputable def w_lSame_t0 (g1 : List (Int) → List (Int) → Int → Int → Option (Bool)) (a0 : List Int) (b1 : List Int) : Option Bool :=
  bif (↑(List.length a0) : Int) != (↑(List.length b1) : Int) then some false else g1 a0 b1 (↑(List.length a0) : Int) 0
theorem w_lSame_ts : Tails c_w_lSame.pts c_w_lSame.round :=
  ⟨fun s => by
    obtain ⟨⟨r0, r1, _⟩, ⟨_, _, s12, s13, _⟩, ⟨_, _, _⟩⟩ := s
    refine Tail.eq (Y := fun g => w_lSame_t1 (fun r0 r1 s12 s13 => g.1 ((r0, r1, ()), ((), (), s12, s13, ()), ((), (), ()))) r0 r1 s12 s13) ?_ (fun g => by kernel_rfl)
    simp only [w_lSame_t1]; repeat (first | exact Tail.const _ | exact Tail.here _ | exact Tail.there (Tail.here _) | exact Tail.there (Tail.there (Tail.here _)) | exact Tail.there (Tail.there (Tail.there (Tail.here _))) | exact Tail.there (Tail.there (Tail.there (Tail.there (Tail.here _)))) | exact Tail.there (Tail.there (Tail.there (Tail.there (Tail.there (Tail.here _))))) | apply Tail.cond | (apply Tail.bind; intro _)), trivial⟩
theorem w_lSame_hs : ∀ x, Tail c_w_lSame.pts (fun g => c_w_lSame.start g x) := fun x => by
    obtain ⟨a0, b1, _⟩ := x
    refine Tail.eq (Y := fun g => w_lSame_t0 (fun r0 r1 s12 s13 => g.1 ((r0, r1, ()), ((), (), s12, s13, ()), ((), (), ()))) a0 b1) ?_ (fun g => by kernel_rfl)
    simp only [w_lSame_t0]; repeat (first | exact Tail.const _ | exact Tail.here _ | exact Tail.there (Tail.here _) | exact Tail.there (Tail.there (Tail.here _)) | exact Tail.there (Tail.there (Tail.there (Tail.here _))) | exact Tail.there (Tail.there (Tail.there (Tail.there (Tail.here _)))) | exact Tail.there (Tail.there (Tail.there (Tail.there (Tail.there (Tail.here _))))) | apply Tail.cond | (apply Tail.bind; intro _))
noncomputable def w_lSame_L1 (r0 : List (Int)) (r1 : List (Int)) (s12 : Int) (s13 : Int) : Option Bool := c_w_lSame.L.1 ((r0, r1, ()), ((), (), s12, s13, ()), ((), (), ()))
theorem w_lSame_u1 (r0 : List (Int)) (r1 : List (Int)) (s12 : Int) (s13 : Int) : w_lSame_L1 r0 r1 s12 s13 = w_lSame_t1 w_lSame_L1 r0 r1 s12 s13 :=
  (congrArg (fun g => g.1 ((r0, r1, ()), ((), (), s12, s13, ()), ((), (), ()))) (FnCx.L_eq w_lSame_ts)).trans (by kernel_rfl)
noncomputable def w_lSame (a0 : List Int) (b1 : List Int) : Option Bool := w_lSame_t0 w_lSame_L1 a0 b1
theorem w_lSame_e (a0 : List Int) (b1 : List Int) : c_w_lSame.start c_w_lSame.L (a0, b1, ()) = w_lSame a0 b1 := by kernel_rfl
noncomputable def F_w_lSame : Ins c_w_lSame.ins → Option Bool := fun x => w_lSame x.1 x.2.1
noncomputable def S_w_lSame : FSpec := mkF c_w_lSame.env.pre c_w_lSame.ins c_w_lSame.out c_w_lSame.inj F_w_lSame
theorem h_w_lSame : Cert Try.prog 78 S_w_lSame := FnCx.certF (c := c_w_lSame) F_w_lSame (tyOk _ _ _) (spOk trivial) (fun _ _ _ _ _ hs => evDr_ok (tyOk _ _ _) hs follows) Try.func78 rfl rfl Try.ntmps78 (by kernel_rfl) rfl rfl (fun _ => rfl) w_lSame_ts w_lSame_hs (fun x t hb ht => by
  obtain ⟨a0, b1, _⟩ := x
  exact (w_lSame_e a0 b1).trans ht)
/-! laws.lRises -/
noncomputable def c_w_lRises : FnCx := { env := env 20 [] [], body := bodyOf Try.f153, res := [.tmp 2], ins := [.ro kSint], out := [(kbool, true)], T := Bool, fin := fun r => r.1.1, inj := fun t => ((t, ()), ((), ())), pts := [([.inLoop [1, 0, 1, 0, 0], .inBlock 0, .code [1, 1]], Shape.mk [Bs.row kint 3 false] [(0, Ss.one (Cs.sl 0)), (3, Ss.one (Cs.sc kint))] [Ss.one (Cs.any)])], fuel := 400, dr := evDr (env 20 [] []) }
noncomputable def w_lRises_t1 (g1 : List (Int) → Int → Option (Bool)) (r0 : List (Int)) (i3 : Int) : Option Bool :=
  bif decide (i3 < (↑(List.length r0) : Int)) then
    bif decide (0 ≤ IntKind.wrap IntKind.i64 (i3 - 1)) then
      bif decide (IntKind.wrap IntKind.i64 (i3 - 1) < (↑(List.length r0) : Int)) then
        bif decide (0 ≤ i3) then
          bif decide (i3 < (↑(List.length r0) : Int)) then
            bif decide (rdk kint r0 (IntKind.wrap IntKind.i64 (i3 - 1)) ≥ rdk kint r0 i3) then some false
            else g1 r0 (IntKind.wrap IntKind.i64 (i3 + 1))
          else none
        else none
      else none
    else none
  else some true
noncomputable def w_lRises_t0 (g1 : List (Int) → Int → Option (Bool)) (list0 : List Int) : Option Bool :=
  g1 list0 1
theorem w_lRises_ts : Tails c_w_lRises.pts c_w_lRises.round :=
  ⟨fun s => by
    obtain ⟨⟨r0, _⟩, ⟨_, i3, _⟩, ⟨_, _⟩⟩ := s
    refine Tail.eq (Y := fun g => w_lRises_t1 (fun r0 i3 => g.1 ((r0, ()), ((), i3, ()), ((), ()))) r0 i3) ?_ (fun g => by kernel_rfl)
    simp only [w_lRises_t1]; repeat (first | exact Tail.const _ | exact Tail.here _ | exact Tail.there (Tail.here _) | exact Tail.there (Tail.there (Tail.here _)) | exact Tail.there (Tail.there (Tail.there (Tail.here _))) | exact Tail.there (Tail.there (Tail.there (Tail.there (Tail.here _)))) | exact Tail.there (Tail.there (Tail.there (Tail.there (Tail.there (Tail.here _))))) | apply Tail.cond | (apply Tail.bind; intro _)), trivial⟩
theorem w_lRises_hs : ∀ x, Tail c_w_lRises.pts (fun g => c_w_lRises.start g x) := fun x => by
    obtain ⟨list0, _⟩ := x
    refine Tail.eq (Y := fun g => w_lRises_t0 (fun r0 i3 => g.1 ((r0, ()), ((), i3, ()), ((), ()))) list0) ?_ (fun g => by kernel_rfl)
    simp only [w_lRises_t0]; repeat (first | exact Tail.const _ | exact Tail.here _ | exact Tail.there (Tail.here _) | exact Tail.there (Tail.there (Tail.here _)) | exact Tail.there (Tail.there (Tail.there (Tail.here _))) | exact Tail.there (Tail.there (Tail.there (Tail.there (Tail.here _)))) | exact Tail.there (Tail.there (Tail.there (Tail.there (Tail.there (Tail.here _))))) | apply Tail.cond | (apply Tail.bind; intro _))
noncomputable def w_lRises_L1 (r0 : List (Int)) (i3 : Int) : Option Bool := c_w_lRises.L.1 ((r0, ()), ((), i3, ()), ((), ()))
theorem w_lRises_u1 (r0 : List (Int)) (i3 : Int) : w_lRises_L1 r0 i3 = w_lRises_t1 w_lRises_L1 r0 i3 :=
  (congrArg (fun g => g.1 ((r0, ()), ((), i3, ()), ((), ()))) (FnCx.L_eq w_lRises_ts)).trans (by kernel_rfl)
noncomputable def w_lRises (list0 : List Int) : Option Bool := w_lRises_t0 w_lRises_L1 list0
theorem w_lRises_e (list0 : List Int) : c_w_lRises.start c_w_lRises.L (list0, ()) = w_lRises list0 := by kernel_rfl
noncomputable def F_w_lRises : Ins c_w_lRises.ins → Option Bool := fun x => w_lRises x.1
noncomputable def S_w_lRises : FSpec := mkF c_w_lRises.env.pre c_w_lRises.ins c_w_lRises.out c_w_lRises.inj F_w_lRises
theorem h_w_lRises : Cert Try.prog 153 S_w_lRises := FnCx.certF (c := c_w_lRises) F_w_lRises (tyOk _ _ _) (spOk trivial) (fun _ _ _ _ _ hs => evDr_ok (tyOk _ _ _) hs follows) Try.func153 rfl rfl Try.ntmps153 (by kernel_rfl) rfl rfl (fun _ => rfl) w_lRises_ts w_lRises_hs (fun x t hb ht => by
  obtain ⟨list0, _⟩ := x
  exact (w_lRises_e list0).trans ht)
/-! laws.lHas -/
noncomputable def c_w_lHas : FnCx := { env := env 17 [] [], body := bodyOf Try.f79, res := [.tmp 4], ins := [.ro kSint, .ro kint], out := [(kbool, true)], T := Bool, fin := fun r => r.1.1, inj := fun t => ((t, ()), ((), (), ())), pts := [([.inLoop [1, 0, 1, 0, 0], .inBlock 0, .code [1, 1]], Shape.mk [Bs.row kint 3 false] [(1, Ss.one (Cs.sc kint)), (7, Ss.one (Cs.sl 0)), (8, Ss.one (Cs.sc kint)), (9, Ss.one (Cs.sc kint))] [Ss.one (Cs.any), Ss.one (Cs.any)])], fuel := 400, dr := noDr }
noncomputable def w_lHas_t1 (g1 : List (Int) → Int → Int → Int → Option (Bool)) (r0 : List (Int)) (n1 : Int) (s8 : Int) (s9 : Int) : Option Bool :=
  bif decide (s9 < s8) then
    bif decide (0 ≤ s9) then
      bif decide (s9 < (↑(List.length r0) : Int)) then
        bif rdk kint r0 s9 == n1 then some true else g1 r0 n1 s8 (IntKind.wrap IntKind.i64 (s9 + 1))
      else none
    else none
  else some false
noncomputable def w_lHas_t0 (g1 : List (Int) → Int → Int → Int → Option (Bool)) (list0 : List Int) (n1 : Int) : Option Bool :=
  g1 list0 n1 (↑(List.length list0) : Int) 0
theorem w_lHas_ts : Tails c_w_lHas.pts c_w_lHas.round :=
  ⟨fun s => by
    obtain ⟨⟨r0, _⟩, ⟨n1, _, s8, s9, _⟩, ⟨_, _, _⟩⟩ := s
    refine Tail.eq (Y := fun g => w_lHas_t1 (fun r0 n1 s8 s9 => g.1 ((r0, ()), (n1, (), s8, s9, ()), ((), (), ()))) r0 n1 s8 s9) ?_ (fun g => by kernel_rfl)
    simp only [w_lHas_t1]; repeat (first | exact Tail.const _ | exact Tail.here _ | exact Tail.there (Tail.here _) | exact Tail.there (Tail.there (Tail.here _)) | exact Tail.there (Tail.there (Tail.there (Tail.here _))) | exact Tail.there (Tail.there (Tail.there (Tail.there (Tail.here _)))) | exact Tail.there (Tail.there (Tail.there (Tail.there (Tail.there (Tail.here _))))) | apply Tail.cond | (apply Tail.bind; intro _)), trivial⟩
theorem w_lHas_hs : ∀ x, Tail c_w_lHas.pts (fun g => c_w_lHas.start g x) := fun x => by
    obtain ⟨list0, n1, _⟩ := x
    refine Tail.eq (Y := fun g => w_lHas_t0 (fun r0 n1 s8 s9 => g.1 ((r0, ()), (n1, (), s8, s9, ()), ((), (), ()))) list0 n1) ?_ (fun g => by kernel_rfl)
    simp only [w_lHas_t0]; repeat (first | exact Tail.const _ | exact Tail.here _ | exact Tail.there (Tail.here _) | exact Tail.there (Tail.there (Tail.here _)) | exact Tail.there (Tail.there (Tail.there (Tail.here _))) | exact Tail.there (Tail.there (Tail.there (Tail.there (Tail.here _)))) | exact Tail.there (Tail.there (Tail.there (Tail.there (Tail.there (Tail.here _))))) | apply Tail.cond | (apply Tail.bind; intro _))
noncomputable def w_lHas_L1 (r0 : List (Int)) (n1 : Int) (s8 : Int) (s9 : Int) : Option Bool := c_w_lHas.L.1 ((r0, ()), (n1, (), s8, s9, ()), ((), (), ()))
theorem w_lHas_u1 (r0 : List (Int)) (n1 : Int) (s8 : Int) (s9 : Int) : w_lHas_L1 r0 n1 s8 s9 = w_lHas_t1 w_lHas_L1 r0 n1 s8 s9 :=
  (congrArg (fun g => g.1 ((r0, ()), (n1, (), s8, s9, ()), ((), (), ()))) (FnCx.L_eq w_lHas_ts)).trans (by kernel_rfl)
noncomputable def w_lHas (list0 : List Int) (n1 : Int) : Option Bool := w_lHas_t0 w_lHas_L1 list0 n1
theorem w_lHas_e (list0 : List Int) (n1 : Int) : c_w_lHas.start c_w_lHas.L (list0, n1, ()) = w_lHas list0 n1 := by kernel_rfl
noncomputable def F_w_lHas : Ins c_w_lHas.ins → Option Bool := fun x => w_lHas x.1 x.2.1
noncomputable def S_w_lHas : FSpec := mkF c_w_lHas.env.pre c_w_lHas.ins c_w_lHas.out c_w_lHas.inj F_w_lHas
theorem h_w_lHas : Cert Try.prog 79 S_w_lHas := FnCx.certF (c := c_w_lHas) F_w_lHas (tyOk _ _ _) (spOk trivial) (fun _ _ _ _ _ hs => noDr_ok) Try.func79 rfl rfl Try.ntmps79 (by kernel_rfl) rfl rfl (fun _ => rfl) w_lHas_ts w_lHas_hs (fun x t hb ht => by
  obtain ⟨list0, n1, _⟩ := x
  exact (w_lHas_e list0 n1).trans ht)
/-! laws.lSum -/
noncomputable def c_w_lSum : FnCx := { env := env 17 [] [], body := bodyOf Try.f154, res := [.tmp 2], ins := [.ro kSint], out := [(kint, true)], T := Int, fin := fun r => r.1.1, inj := fun t => ((t, ()), ((), ())), pts := [([.inLoop [1, 1, 0, 1, 0, 0], .inBlock 0, .code [1, 1, 1]], Shape.mk [Bs.row kint 3 false] [(3, Ss.one (Cs.sc kint)), (6, Ss.one (Cs.sl 0)), (7, Ss.one (Cs.sc kint)), (8, Ss.one (Cs.sc kint))] [Ss.one (Cs.any)])], fuel := 400, dr := noDr }
noncomputable def w_lSum_t1 (g1 : List (Int) → Int → Int → Int → Option (Int)) (r0 : List (Int)) (sum3 : Int) (s7 : Int) (s8 : Int) : Option Int :=
  bif decide (s8 < s7) then
    bif decide (0 ≤ s8) then
      bif decide (s8 < (↑(List.length r0) : Int)) then
        g1 r0 (IntKind.wrap IntKind.i64 (sum3 + rdk kint r0 s8)) s7 (IntKind.wrap IntKind.i64 (s8 + 1))
      else none
    else none
  else some sum3
noncomputable def w_lSum_t0 (g1 : List (Int) → Int → Int → Int → Option (Int)) (list0 : List Int) : Option Int :=
  g1 list0 0 (↑(List.length list0) : Int) 0
theorem w_lSum_ts : Tails c_w_lSum.pts c_w_lSum.round :=
  ⟨fun s => by
    obtain ⟨⟨r0, _⟩, ⟨sum3, _, s7, s8, _⟩, ⟨_, _⟩⟩ := s
    refine Tail.eq (Y := fun g => w_lSum_t1 (fun r0 sum3 s7 s8 => g.1 ((r0, ()), (sum3, (), s7, s8, ()), ((), ()))) r0 sum3 s7 s8) ?_ (fun g => by kernel_rfl)
    simp only [w_lSum_t1]; repeat (first | exact Tail.const _ | exact Tail.here _ | exact Tail.there (Tail.here _) | exact Tail.there (Tail.there (Tail.here _)) | exact Tail.there (Tail.there (Tail.there (Tail.here _))) | exact Tail.there (Tail.there (Tail.there (Tail.there (Tail.here _)))) | exact Tail.there (Tail.there (Tail.there (Tail.there (Tail.there (Tail.here _))))) | apply Tail.cond | (apply Tail.bind; intro _)), trivial⟩
theorem w_lSum_hs : ∀ x, Tail c_w_lSum.pts (fun g => c_w_lSum.start g x) := fun x => by
    obtain ⟨list0, _⟩ := x
    refine Tail.eq (Y := fun g => w_lSum_t0 (fun r0 sum3 s7 s8 => g.1 ((r0, ()), (sum3, (), s7, s8, ()), ((), ()))) list0) ?_ (fun g => by kernel_rfl)
    simp only [w_lSum_t0]; repeat (first | exact Tail.const _ | exact Tail.here _ | exact Tail.there (Tail.here _) | exact Tail.there (Tail.there (Tail.here _)) | exact Tail.there (Tail.there (Tail.there (Tail.here _))) | exact Tail.there (Tail.there (Tail.there (Tail.there (Tail.here _)))) | exact Tail.there (Tail.there (Tail.there (Tail.there (Tail.there (Tail.here _))))) | apply Tail.cond | (apply Tail.bind; intro _))
noncomputable def w_lSum_L1 (r0 : List (Int)) (sum3 : Int) (s7 : Int) (s8 : Int) : Option Int := c_w_lSum.L.1 ((r0, ()), (sum3, (), s7, s8, ()), ((), ()))
theorem w_lSum_u1 (r0 : List (Int)) (sum3 : Int) (s7 : Int) (s8 : Int) : w_lSum_L1 r0 sum3 s7 s8 = w_lSum_t1 w_lSum_L1 r0 sum3 s7 s8 :=
  (congrArg (fun g => g.1 ((r0, ()), (sum3, (), s7, s8, ()), ((), ()))) (FnCx.L_eq w_lSum_ts)).trans (by kernel_rfl)
noncomputable def w_lSum (list0 : List Int) : Option Int := w_lSum_t0 w_lSum_L1 list0
theorem w_lSum_e (list0 : List Int) : c_w_lSum.start c_w_lSum.L (list0, ()) = w_lSum list0 := by kernel_rfl
noncomputable def F_w_lSum : Ins c_w_lSum.ins → Option Int := fun x => w_lSum x.1
noncomputable def S_w_lSum : FSpec := mkF c_w_lSum.env.pre c_w_lSum.ins c_w_lSum.out c_w_lSum.inj F_w_lSum
theorem h_w_lSum : Cert Try.prog 154 S_w_lSum := FnCx.certF (c := c_w_lSum) F_w_lSum (tyOk _ _ _) (spOk trivial) (fun _ _ _ _ _ hs => noDr_ok) Try.func154 rfl rfl Try.ntmps154 (by kernel_rfl) rfl rfl (fun _ => rfl) w_lSum_ts w_lSum_hs (fun x t hb ht => by
  obtain ⟨list0, _⟩ := x
  exact (w_lSum_e list0).trans ht)
end Go.Proofs.Ythenlapjhlljnaa.V
