/- The row of the law FnCarpetsLookOfAll: whatever its arguments, it returns true. No condition. -/
import Derived.Test.YthenlapjhlljnaaRows
import Derived.Test.YthenlapjhlljnaaPureFnCarpetsLookOfAll
import Derived.Test.YthenlapjhlljnaaFacts
namespace Go.Proofs.Ythenlapjhlljnaa.fnCarpetsLookOfAll
open Go Go.Ev Go.Proofs Go.ChangeShapes Go.WideShapes Go.ChangeAt Go.RowKit Go.Proofs.Ythenlapjhlljnaa.V
set_option linter.unusedVariables false
theorem own : ownKnob Try.prog.godebug = none := by kernel_rfl
theorem laidOut : laidOutB Try.prog = true := by kernel_rfl
theorem tf0 : (TF Try.prog kint).1 3 := Try.underlying3
theorem tf1 : (TF Try.prog kint).1 3 := Try.underlying3
theorem tf2 : (TF Try.prog kint).1 3 := Try.underlying3
theorem tf3 : (TF Try.prog kstring).1 9 := Try.underlying9
theorem tf4 : (TF Try.prog kint).1 3 := Try.underlying3
theorem tf5 : (TF Try.prog kint).1 3 := Try.underlying3
theorem tf6 : (TF Try.prog kint).1 3 := Try.underlying3
theorem tf7 : (TF Try.prog kstring).1 9 := Try.underlying9
theorem tf8 : (TF Try.prog kint).1 3 := Try.underlying3
theorem tf9 : (TF Try.prog kint).1 3 := Try.underlying3
set_option maxRecDepth 100000 in
theorem lifted (os : Os) (started : os.Started) (H : Type) (enc : TypeId × Value → H) :
    ReturnsInHanded {} Try.checked os 3 .any (Rows.fnCarpetsLookOfAllSpec.pre6 enc Try.prog Try.f3 Rows.fnCarpetsLookOfAllRow.domain false) (Rows.fnCarpetsLookOfAllSpec.post enc Try.prog Try.f3 false true false false) := by
  refine returnsInHanded_of_change_sized (C := Try.checked) own started (by kernel_rfl) Try.func3
    (ChangeSpec.witness6 (enc := enc) (C := Try.checked) false ⟨#[], #[.int .i64 0, .int .i64 0, .int .i64 0, .string ByteArray.empty, .int .i64 0, .int .i64 0, .int .i64 0, .string ByteArray.empty, .int .i64 0, .int .i64 0], []⟩ 8 (by kernel_rfl) (by kernel_rfl) (by kernel_rfl) (by kernel_rfl)) ?_
  intro W base args ds gs before hval0 hW hcnd hsz0 _
  have hval : ∀ (j : Nat) t v, Try.f3.params[j]? = some t → args[j]? = some v → Value.okWide Try.prog W .any base t v := hval0
  have hW' := hW
  obtain ⟨p, q, hA0, hV, rfl, hfz, hnd⟩ := hW
  have hA : DataW.TrodAll enc Try.prog W 0 (fun _ => true) true Try.f3.params.toList args.toList ds p := hA0
  rw [Try.params3] at hA hval
  obtain ⟨v0, vs0, d0, ds0, p0, q0, hargs, rfl, rfl, h0, r0⟩ := trodAll_cons hA
  obtain ⟨v1, vs1, d1, ds1, p1, q1, rfl, rfl, rfl, h1, r1⟩ := trodAll_cons r0
  obtain ⟨v2, vs2, d2, ds2, p2, q2, rfl, rfl, rfl, h2, r2⟩ := trodAll_cons r1
  obtain ⟨v3, vs3, d3, ds3, p3, q3, rfl, rfl, rfl, h3, r3⟩ := trodAll_cons r2
  obtain ⟨v4, vs4, d4, ds4, p4, q4, rfl, rfl, rfl, h4, r4⟩ := trodAll_cons r3
  obtain ⟨v5, vs5, d5, ds5, p5, q5, rfl, rfl, rfl, h5, r5⟩ := trodAll_cons r4
  obtain ⟨v6, vs6, d6, ds6, p6, q6, rfl, rfl, rfl, h6, r6⟩ := trodAll_cons r5
  obtain ⟨v7, vs7, d7, ds7, p7, q7, rfl, rfl, rfl, h7, r7⟩ := trodAll_cons r6
  obtain ⟨v8, vs8, d8, ds8, p8, q8, rfl, rfl, rfl, h8, r8⟩ := trodAll_cons r7
  obtain ⟨v9, vs9, d9, ds9, p9, q9, rfl, rfl, rfl, h9, r9⟩ := trodAll_cons r8
  obtain ⟨rfl, rfl, rfl⟩ := trodAll_nil r9
  obtain rfl : args = #[v0, v1, v2, v3, v4, v5, v6, v7, v8, v9] := by cases args; simp_all
  obtain ⟨rfl, rfl⟩ := trodVars_none hV
  have hv0 := hval 0 3 v0 rfl rfl
  obtain ⟨y0, hp0, hw0⟩ := open_kd (k := kint) tf0 hv0 h0
  have lt0 : ∀ x ∈ p0, x.block < W.heap.size := by obtain ⟨m, hm⟩ := h0; exact DataW.trod_lt m _ _ _ hm
  have hv1 := hval 1 3 v1 rfl rfl
  obtain ⟨y1, hp1, hw1⟩ := open_kd (k := kint) tf1 hv1 h1
  have lt1 : ∀ x ∈ p1, x.block < W.heap.size := by obtain ⟨m, hm⟩ := h1; exact DataW.trod_lt m _ _ _ hm
  have hv2 := hval 2 3 v2 rfl rfl
  obtain ⟨y2, hp2, hw2⟩ := open_kd (k := kint) tf2 hv2 h2
  have lt2 : ∀ x ∈ p2, x.block < W.heap.size := by obtain ⟨m, hm⟩ := h2; exact DataW.trod_lt m _ _ _ hm
  have hv3 := hval 3 9 v3 rfl rfl
  obtain ⟨y3, hp3, hw3⟩ := open_kd (k := kstring) tf3 hv3 h3
  have lt3 : ∀ x ∈ p3, x.block < W.heap.size := by obtain ⟨m, hm⟩ := h3; exact DataW.trod_lt m _ _ _ hm
  have hv4 := hval 4 3 v4 rfl rfl
  obtain ⟨y4, hp4, hw4⟩ := open_kd (k := kint) tf4 hv4 h4
  have lt4 : ∀ x ∈ p4, x.block < W.heap.size := by obtain ⟨m, hm⟩ := h4; exact DataW.trod_lt m _ _ _ hm
  have hv5 := hval 5 3 v5 rfl rfl
  obtain ⟨y5, hp5, hw5⟩ := open_kd (k := kint) tf5 hv5 h5
  have lt5 : ∀ x ∈ p5, x.block < W.heap.size := by obtain ⟨m, hm⟩ := h5; exact DataW.trod_lt m _ _ _ hm
  have hv6 := hval 6 3 v6 rfl rfl
  obtain ⟨y6, hp6, hw6⟩ := open_kd (k := kint) tf6 hv6 h6
  have lt6 : ∀ x ∈ p6, x.block < W.heap.size := by obtain ⟨m, hm⟩ := h6; exact DataW.trod_lt m _ _ _ hm
  have hv7 := hval 7 9 v7 rfl rfl
  obtain ⟨y7, hp7, hw7⟩ := open_kd (k := kstring) tf7 hv7 h7
  have lt7 : ∀ x ∈ p7, x.block < W.heap.size := by obtain ⟨m, hm⟩ := h7; exact DataW.trod_lt m _ _ _ hm
  have hv8 := hval 8 3 v8 rfl rfl
  obtain ⟨y8, hp8, hw8⟩ := open_kd (k := kint) tf8 hv8 h8
  have lt8 : ∀ x ∈ p8, x.block < W.heap.size := by obtain ⟨m, hm⟩ := h8; exact DataW.trod_lt m _ _ _ hm
  have hv9 := hval 9 3 v9 rfl rfl
  obtain ⟨y9, hp9, hw9⟩ := open_kd (k := kint) tf9 hv9 h9
  have lt9 : ∀ x ∈ p9, x.block < W.heap.size := by obtain ⟨m, hm⟩ := h9; exact DataW.trod_lt m _ _ _ hm
  refine (law_callsO (args := [v0, v1, v2, v3, v4, v5, v6, v7, v8, v9]) rfl h_w_FnCarpetsLookOfAll (x := (y0, y1, y2, y3, y4, y5, y6, y7, y8, y9, ())) trivial ⟨v0, _, [], [], rfl, rfl, hp0, ⟨v1, _, [], [], rfl, rfl, hp1, ⟨v2, _, [], [], rfl, rfl, hp2, ⟨v3, _, [], [], rfl, rfl, hp3, ⟨v4, _, [], [], rfl, rfl, hp4, ⟨v5, _, [], [], rfl, rfl, hp5, ⟨v6, _, [], [], rfl, rfl, hp6, ⟨v7, _, [], [], rfl, rfl, hp7, ⟨v8, _, [], [], rfl, rfl, hp8, ⟨v9, _, [], [], rfl, rfl, hp9, ⟨rfl, rfl⟩⟩⟩⟩⟩⟩⟩⟩⟩⟩⟩ (pure_FnCarpetsLookOfAll y0 hw0 y1 hw1 y2 hw2 y3 hw3 y4 hw4 y5 hw5 y6 hw6 y7 hw7 y8 hw8 y9 hw9)).mono fun e W' ⟨he, bel⟩ => ?_
  subst he
  exact ⟨_, rfl, _, _, _, [], _, [], hW', trodAll_mk1 (shut_bool Try.underlying4 _), (trodAll_cons_mk (Below.trod laidOut (by kernel_rfl) (of_decide_eq_true (by kernel_rfl)) h0 bel lt0) (trodAll_cons_mk (Below.trod laidOut (by kernel_rfl) (of_decide_eq_true (by kernel_rfl)) h1 bel lt1) (trodAll_cons_mk (Below.trod laidOut (by kernel_rfl) (of_decide_eq_true (by kernel_rfl)) h2 bel lt2) (trodAll_cons_mk (Below.trod laidOut (by kernel_rfl) (of_decide_eq_true (by kernel_rfl)) h3 bel lt3) (trodAll_cons_mk (Below.trod laidOut (by kernel_rfl) (of_decide_eq_true (by kernel_rfl)) h4 bel lt4) (trodAll_cons_mk (Below.trod laidOut (by kernel_rfl) (of_decide_eq_true (by kernel_rfl)) h5 bel lt5) (trodAll_cons_mk (Below.trod laidOut (by kernel_rfl) (of_decide_eq_true (by kernel_rfl)) h6 bel lt6) (trodAll_cons_mk (Below.trod laidOut (by kernel_rfl) (of_decide_eq_true (by kernel_rfl)) h7 bel lt7) (trodAll_cons_mk (Below.trod laidOut (by kernel_rfl) (of_decide_eq_true (by kernel_rfl)) h8 bel lt8) (trodAll_cons_mk (Below.trod laidOut (by kernel_rfl) (of_decide_eq_true (by kernel_rfl)) h9 bel lt9) trodAll_mk0)))))))))), rfl, bel.frame _, fun h => by cases h⟩
theorem c9 : (Rows.fnCarpetsLookOfAllRow.inPlace == Try.checked.prog.inPlace 3) = true := by kernel_rfl
theorem c10 : (Rows.fnCarpetsLookOfAllRow.unfollowed == Try.checked.prog.unfollowed 3) = true := by kernel_rfl
theorem c11 : (Rows.fnCarpetsLookOfAllRow.recurses == Try.checked.prog.recurses 3) = true := by kernel_rfl
theorem c12 : (Rows.fnCarpetsLookOfAllRow.named == Try.checked.prog.varsNamed 3) = true := by kernel_rfl
theorem closed : joinedFacts Try.checked.prog 3 Try.f3 Rows.fnCarpetsLookOfAllSpec Rows.fnCarpetsLookOfAllRow = true := (V.aT (V.aT (V.aT (V.aT (V.aT (V.aT (V.aT (V.aT (V.aT (V.aT (V.aT (V.aT (V.aT (V.aT (V.aT (V.aT (V.aT (V.aT (V.aT (V.aT (V.aT (V.aT (V.aT (V.aT (V.aT (V.aT (V.aT (V.aT (V.aT (V.aT (V.aT (by kernel_rfl) V.c1) V.c2) (by kernel_rfl)) (by kernel_rfl)) (by kernel_rfl)) (by kernel_rfl)) (by kernel_rfl)) (by kernel_rfl)) c9) c10) c11) c12) (by kernel_rfl)) (by kernel_rfl)) (by kernel_rfl)) (by kernel_rfl)) (by kernel_rfl)) (by kernel_rfl)) (by kernel_rfl)) (by kernel_rfl)) (by kernel_rfl)) V.c22) (by kernel_rfl)) V.c24) V.c25) V.c26) V.c27) (by kernel_rfl)) (by kernel_rfl)) (by kernel_rfl)) (by kernel_rfl))
theorem over : Rows.fnCarpetsLookOfAllRow.holds Try.pinned (OpenSpec.ofChange Rows.fnCarpetsLookOfAllSpec) :=
  OpenClaim.holds_of_wide 3 Try.f3 rfl rfl rfl rfl rfl rfl rfl ⟨rfl, rfl, rfl, rfl, rfl⟩ rfl rfl rfl rfl rfl (by kernel_rfl) Try.func3 closed
    (of_decide_eq_true (by kernel_rfl)) (by unfold Func.isWrapper; first | (rw [if_pos (by decide +kernel)]; kernel_rfl) | (rw [if_neg (by decide +kernel)]; exact ⟨rfl, rfl⟩))
    (fun os started H enc _ => lifted os started H enc)
theorem proved : Rows.FnCarpetsLookOfAllSaid := over
#print axioms proved
end Go.Proofs.Ythenlapjhlljnaa.fnCarpetsLookOfAll
namespace Go.Proofs.Ythenlapjhlljnaa
/-- The row, under a short name. -/
theorem fnCarpetsLookOfAll_holds : Rows.FnCarpetsLookOfAllSaid := fnCarpetsLookOfAll.proved
end Go.Proofs.Ythenlapjhlljnaa
