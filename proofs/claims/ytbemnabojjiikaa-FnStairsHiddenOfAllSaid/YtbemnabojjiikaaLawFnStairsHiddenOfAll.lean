/- The row of the law FnStairsHiddenOfAll: whatever its arguments, it returns true. No condition. -/
import Derived.Test.YtbemnabojjiikaaRows
import Derived.Test.YtbemnabojjiikaaPureFnStairsHiddenOfAll
namespace Go.Proofs.Ytbemnabojjiikaa.fnStairsHiddenOfAll
open Go Go.Ev Go.Proofs Go.ChangeShapes Go.WideShapes Go.ChangeAt Go.RowKit Go.Proofs.Ytbemnabojjiikaa.V
set_option linter.unusedVariables false
theorem own : ownKnob Try.prog.godebug = none := by kernel_rfl
theorem laidOut : laidOutB Try.prog = true := by kernel_rfl
theorem tf0 : (TF Try.prog kStairs).1 31 := ⟨_, Try.underlying31, by kernel_rfl, rfl, by kernel_rfl, Try.underlying3, rfl, by kernel_rfl, ⟨Try.underlying22, by kernel_rfl, Try.underlying3⟩, rfl, by kernel_rfl, ⟨Try.underlying22, by kernel_rfl, Try.underlying3⟩⟩
theorem tf1 : (TF Try.prog kint).1 3 := Try.underlying3
theorem tf2 : (TF Try.prog kint).1 3 := Try.underlying3
theorem tf3 : (TF Try.prog kPuzzle).1 28 := ⟨_, Try.underlying28, by kernel_rfl, rfl, by kernel_rfl, ⟨Try.underlying26, by kernel_rfl, ⟨_, Try.underlying63, by kernel_rfl, rfl, by kernel_rfl, Try.underlying3, rfl, by kernel_rfl, Try.underlying3, rfl, by kernel_rfl, Try.underlying3⟩⟩⟩
theorem tf4 : (TF Try.prog kPuzzle).1 28 := ⟨_, Try.underlying28, by kernel_rfl, rfl, by kernel_rfl, ⟨Try.underlying26, by kernel_rfl, ⟨_, Try.underlying63, by kernel_rfl, rfl, by kernel_rfl, Try.underlying3, rfl, by kernel_rfl, Try.underlying3, rfl, by kernel_rfl, Try.underlying3⟩⟩⟩
theorem tf5 : (TF Try.prog kClue).1 63 := ⟨_, Try.underlying63, by kernel_rfl, rfl, by kernel_rfl, Try.underlying3, rfl, by kernel_rfl, Try.underlying3, rfl, by kernel_rfl, Try.underlying3⟩
theorem tf6 : (TF Try.prog kPuzzle).1 28 := ⟨_, Try.underlying28, by kernel_rfl, rfl, by kernel_rfl, ⟨Try.underlying26, by kernel_rfl, ⟨_, Try.underlying63, by kernel_rfl, rfl, by kernel_rfl, Try.underlying3, rfl, by kernel_rfl, Try.underlying3, rfl, by kernel_rfl, Try.underlying3⟩⟩⟩
theorem tf7 : (TF Try.prog kint).1 3 := Try.underlying3
theorem tf8 : (TF Try.prog kClue).1 63 := ⟨_, Try.underlying63, by kernel_rfl, rfl, by kernel_rfl, Try.underlying3, rfl, by kernel_rfl, Try.underlying3, rfl, by kernel_rfl, Try.underlying3⟩
theorem tf9 : (TF Try.prog kStairs).1 31 := ⟨_, Try.underlying31, by kernel_rfl, rfl, by kernel_rfl, Try.underlying3, rfl, by kernel_rfl, ⟨Try.underlying22, by kernel_rfl, Try.underlying3⟩, rfl, by kernel_rfl, ⟨Try.underlying22, by kernel_rfl, Try.underlying3⟩⟩
theorem tf10 : (TF Try.prog kClue).1 63 := ⟨_, Try.underlying63, by kernel_rfl, rfl, by kernel_rfl, Try.underlying3, rfl, by kernel_rfl, Try.underlying3, rfl, by kernel_rfl, Try.underlying3⟩
set_option maxRecDepth 100000 in
theorem lifted (os : Os) (started : os.Started) (H : Type) (enc : TypeId × Value → H) :
    ReturnsInHanded {} Try.checked os 13 .any (Rows.fnStairsHiddenOfAllSpec.pre6 enc Try.prog Try.f13 Rows.fnStairsHiddenOfAllRow.domain false) (Rows.fnStairsHiddenOfAllSpec.post enc Try.prog Try.f13 false true false false) := by
  refine returnsInHanded_of_change_sized (C := Try.checked) own started (by kernel_rfl) Try.func13
    (ChangeSpec.witness6 (enc := enc) (C := Try.checked) false ⟨#[], #[.agg #[.int .i64 0, .slice none 0 0, .slice none 0 0], .int .i64 0, .int .i64 0, .agg #[.slice none 0 0], .agg #[.slice none 0 0], .agg #[.int .i64 0, .int .i64 0, .int .i64 0], .agg #[.slice none 0 0], .int .i64 0, .agg #[.int .i64 0, .int .i64 0, .int .i64 0], .agg #[.int .i64 0, .slice none 0 0, .slice none 0 0], .agg #[.int .i64 0, .int .i64 0, .int .i64 0]], []⟩ 8 (by kernel_rfl) (by kernel_rfl) (by kernel_rfl) (by kernel_rfl)) ?_
  intro W base args ds gs before hval0 hW hcnd hsz0 _
  have hval : ∀ (j : Nat) t v, Try.f13.params[j]? = some t → args[j]? = some v → Value.okWide Try.prog W .any base t v := hval0
  have hW' := hW
  obtain ⟨p, q, hA0, hV, rfl, hfz, hnd⟩ := hW
  have hA : DataW.TrodAll enc Try.prog W 0 (fun _ => true) true Try.f13.params.toList args.toList ds p := hA0
  rw [Try.params13] at hA hval
  obtain ⟨v0, vs0, d0, ds0, p0, q0, hargs, rfl, rfl, h0, r0⟩ := trodAll_cons hA
  obtain ⟨v1, vs1, d1, ds1, p1, q1, rfl, rfl, rfl, h1, r1⟩ := trodAll_cons r0
  obtain ⟨v2, vs2, d2, ds2, p2, q2, rfl, rfl, rfl, h2, r2⟩ := trodAll_cons r1
  obtain ⟨v3, vs3, d3, ds3, p3, q3, rfl, rfl, rfl, h3, r3⟩ := trodAll_cons r2
  obtain ⟨v4, vs4, d4, ds4, p4, q4, rfl, rfl, rfl, h4, r4⟩ := trodAll_cons r3
  obtain ⟨v5, vs5, d5, ds5, p5, q5, rfl, rfl, rfl, h5, r5⟩ := trodAll_cons r4
  obtain ⟨v6, vs6, d6, ds6, p6, q6, rfl, rfl, rfl, h6, r6⟩ := trodAll_cons r5
  obtain ⟨v7, vs7, d7, ds7, p7, q7, rfl, rfl, rfl, h7, r7⟩ := trodAll_cons r6
  obtain ⟨v8, vs8, d8, ds8, p8, q8, rfl, rfl, rfl, h8, r8⟩ := trodAll_cons r7
  obtain ⟨v9, vs9, d9, ds9, p9, q9, rfl, rfl, rfl, h9, r9⟩ := trodAll_cons r8
  obtain ⟨v10, vs10, d10, ds10, p10, q10, rfl, rfl, rfl, h10, r10⟩ := trodAll_cons r9
  obtain ⟨rfl, rfl, rfl⟩ := trodAll_nil r10
  obtain rfl : args = #[v0, v1, v2, v3, v4, v5, v6, v7, v8, v9, v10] := by cases args; simp_all
  obtain ⟨rfl, rfl⟩ := trodVars_none hV
  have hv0 := hval 0 31 v0 rfl rfl
  obtain ⟨y0, hp0, hw0⟩ := open_kd (k := kStairs) tf0 hv0 h0
  have lt0 : ∀ x ∈ p0, x.block < W.heap.size := by obtain ⟨m, hm⟩ := h0; exact DataW.trod_lt m _ _ _ hm
  have hv1 := hval 1 3 v1 rfl rfl
  obtain ⟨y1, hp1, hw1⟩ := open_kd (k := kint) tf1 hv1 h1
  have lt1 : ∀ x ∈ p1, x.block < W.heap.size := by obtain ⟨m, hm⟩ := h1; exact DataW.trod_lt m _ _ _ hm
  have hv2 := hval 2 3 v2 rfl rfl
  obtain ⟨y2, hp2, hw2⟩ := open_kd (k := kint) tf2 hv2 h2
  have lt2 : ∀ x ∈ p2, x.block < W.heap.size := by obtain ⟨m, hm⟩ := h2; exact DataW.trod_lt m _ _ _ hm
  have hv3 := hval 3 28 v3 rfl rfl
  obtain ⟨y3, hp3, hw3⟩ := open_kd (k := kPuzzle) tf3 hv3 h3
  have lt3 : ∀ x ∈ p3, x.block < W.heap.size := by obtain ⟨m, hm⟩ := h3; exact DataW.trod_lt m _ _ _ hm
  have hv4 := hval 4 28 v4 rfl rfl
  obtain ⟨y4, hp4, hw4⟩ := open_kd (k := kPuzzle) tf4 hv4 h4
  have lt4 : ∀ x ∈ p4, x.block < W.heap.size := by obtain ⟨m, hm⟩ := h4; exact DataW.trod_lt m _ _ _ hm
  have hv5 := hval 5 63 v5 rfl rfl
  obtain ⟨y5, hp5, hw5⟩ := open_kd (k := kClue) tf5 hv5 h5
  have lt5 : ∀ x ∈ p5, x.block < W.heap.size := by obtain ⟨m, hm⟩ := h5; exact DataW.trod_lt m _ _ _ hm
  have hv6 := hval 6 28 v6 rfl rfl
  obtain ⟨y6, hp6, hw6⟩ := open_kd (k := kPuzzle) tf6 hv6 h6
  have lt6 : ∀ x ∈ p6, x.block < W.heap.size := by obtain ⟨m, hm⟩ := h6; exact DataW.trod_lt m _ _ _ hm
  have hv7 := hval 7 3 v7 rfl rfl
  obtain ⟨y7, hp7, hw7⟩ := open_kd (k := kint) tf7 hv7 h7
  have lt7 : ∀ x ∈ p7, x.block < W.heap.size := by obtain ⟨m, hm⟩ := h7; exact DataW.trod_lt m _ _ _ hm
  have hv8 := hval 8 63 v8 rfl rfl
  obtain ⟨y8, hp8, hw8⟩ := open_kd (k := kClue) tf8 hv8 h8
  have lt8 : ∀ x ∈ p8, x.block < W.heap.size := by obtain ⟨m, hm⟩ := h8; exact DataW.trod_lt m _ _ _ hm
  have hv9 := hval 9 31 v9 rfl rfl
  obtain ⟨y9, hp9, hw9⟩ := open_kd (k := kStairs) tf9 hv9 h9
  have lt9 : ∀ x ∈ p9, x.block < W.heap.size := by obtain ⟨m, hm⟩ := h9; exact DataW.trod_lt m _ _ _ hm
  have hv10 := hval 10 63 v10 rfl rfl
  obtain ⟨y10, hp10, hw10⟩ := open_kd (k := kClue) tf10 hv10 h10
  have lt10 : ∀ x ∈ p10, x.block < W.heap.size := by obtain ⟨m, hm⟩ := h10; exact DataW.trod_lt m _ _ _ hm
  refine (law_callsO (args := [v0, v1, v2, v3, v4, v5, v6, v7, v8, v9, v10]) rfl h_w_FnStairsHiddenOfAll (x := (y0, y1, y2, y3, y4, y5, y6, y7, y8, y9, y10, ())) trivial ⟨v0, _, [], [], rfl, rfl, hp0, ⟨v1, _, [], [], rfl, rfl, hp1, ⟨v2, _, [], [], rfl, rfl, hp2, ⟨v3, _, [], [], rfl, rfl, hp3, ⟨v4, _, [], [], rfl, rfl, hp4, ⟨v5, _, [], [], rfl, rfl, hp5, ⟨v6, _, [], [], rfl, rfl, hp6, ⟨v7, _, [], [], rfl, rfl, hp7, ⟨v8, _, [], [], rfl, rfl, hp8, ⟨v9, _, [], [], rfl, rfl, hp9, ⟨v10, _, [], [], rfl, rfl, hp10, ⟨rfl, rfl⟩⟩⟩⟩⟩⟩⟩⟩⟩⟩⟩⟩ (pure_FnStairsHiddenOfAll y0 hw0 y1 hw1 y2 hw2 y3 hw3 y4 hw4 y5 hw5 y6 hw6 y7 hw7 y8 hw8 y9 hw9 y10 hw10)).mono fun e W' ⟨he, bel⟩ => ?_
  subst he
  exact ⟨_, rfl, _, _, _, [], _, [], hW', trodAll_mk1 (shut_bool Try.underlying4 _), (trodAll_cons_mk (Below.trod laidOut (by kernel_rfl) (of_decide_eq_true (by kernel_rfl)) h0 bel lt0) (trodAll_cons_mk (Below.trod laidOut (by kernel_rfl) (of_decide_eq_true (by kernel_rfl)) h1 bel lt1) (trodAll_cons_mk (Below.trod laidOut (by kernel_rfl) (of_decide_eq_true (by kernel_rfl)) h2 bel lt2) (trodAll_cons_mk (Below.trod laidOut (by kernel_rfl) (of_decide_eq_true (by kernel_rfl)) h3 bel lt3) (trodAll_cons_mk (Below.trod laidOut (by kernel_rfl) (of_decide_eq_true (by kernel_rfl)) h4 bel lt4) (trodAll_cons_mk (Below.trod laidOut (by kernel_rfl) (of_decide_eq_true (by kernel_rfl)) h5 bel lt5) (trodAll_cons_mk (Below.trod laidOut (by kernel_rfl) (of_decide_eq_true (by kernel_rfl)) h6 bel lt6) (trodAll_cons_mk (Below.trod laidOut (by kernel_rfl) (of_decide_eq_true (by kernel_rfl)) h7 bel lt7) (trodAll_cons_mk (Below.trod laidOut (by kernel_rfl) (of_decide_eq_true (by kernel_rfl)) h8 bel lt8) (trodAll_cons_mk (Below.trod laidOut (by kernel_rfl) (of_decide_eq_true (by kernel_rfl)) h9 bel lt9) (trodAll_cons_mk (Below.trod laidOut (by kernel_rfl) (of_decide_eq_true (by kernel_rfl)) h10 bel lt10) trodAll_mk0))))))))))), rfl, bel.frame _, fun h => by cases h⟩
theorem over : Rows.fnStairsHiddenOfAllRow.holds Try.pinned (OpenSpec.ofChange Rows.fnStairsHiddenOfAllSpec) :=
  OpenClaim.holds_of_wide 13 Try.f13 rfl rfl rfl rfl rfl rfl rfl ⟨rfl, rfl, rfl, rfl, rfl⟩ rfl rfl rfl rfl rfl (by kernel_rfl) Try.func13 (by kernel_rfl)
    (of_decide_eq_true (by kernel_rfl)) (by unfold Func.isWrapper; first | (rw [if_pos (by decide +kernel)]; kernel_rfl) | (rw [if_neg (by decide +kernel)]; exact ⟨rfl, rfl⟩))
    (fun os started H enc _ => lifted os started H enc)
theorem proved : Rows.FnStairsHiddenOfAllSaid := over
#print axioms proved
end Go.Proofs.Ytbemnabojjiikaa.fnStairsHiddenOfAll
namespace Go.Proofs.Ytbemnabojjiikaa
/-- The row, under a short name. -/
theorem fnStairsHiddenOfAll_holds : Rows.FnStairsHiddenOfAllSaid := fnStairsHiddenOfAll.proved
end Go.Proofs.Ytbemnabojjiikaa
