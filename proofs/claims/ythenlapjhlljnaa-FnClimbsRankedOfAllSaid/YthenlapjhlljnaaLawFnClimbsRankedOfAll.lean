/- The row of the law FnClimbsRankedOfAll: whatever its arguments, it returns true. No condition. -/
import Derived.Test.YthenlapjhlljnaaRows
import Derived.Test.YthenlapjhlljnaaPureFnClimbsRankedOfAll
import Derived.Test.YthenlapjhlljnaaFacts
namespace Go.Proofs.Ythenlapjhlljnaa.fnClimbsRankedOfAll
open Go Go.Ev Go.Proofs Go.ChangeShapes Go.WideShapes Go.ChangeAt Go.RowKit Go.Proofs.Ythenlapjhlljnaa.V
set_option linter.unusedVariables false
theorem own : ownKnob Try.prog.godebug = none := by kernel_rfl
theorem laidOut : laidOutB Try.prog = true := by kernel_rfl
theorem tf0 : (TF Try.prog kStairs).1 96 := ⟨_, Try.underlying96, by kernel_rfl, rfl, by kernel_rfl, Try.underlying3, rfl, by kernel_rfl, ⟨Try.underlying22, by kernel_rfl, Try.underlying3⟩, rfl, by kernel_rfl, ⟨Try.underlying22, by kernel_rfl, Try.underlying3⟩⟩
theorem tf1 : (TF Try.prog kint).1 3 := Try.underlying3
theorem tf2 : (TF Try.prog kStairs).1 96 := ⟨_, Try.underlying96, by kernel_rfl, rfl, by kernel_rfl, Try.underlying3, rfl, by kernel_rfl, ⟨Try.underlying22, by kernel_rfl, Try.underlying3⟩, rfl, by kernel_rfl, ⟨Try.underlying22, by kernel_rfl, Try.underlying3⟩⟩
theorem tf3 : (TF Try.prog kSint).1 22 := ⟨Try.underlying22, by kernel_rfl, Try.underlying3⟩
theorem tf4 : (TF Try.prog kStairs).1 96 := ⟨_, Try.underlying96, by kernel_rfl, rfl, by kernel_rfl, Try.underlying3, rfl, by kernel_rfl, ⟨Try.underlying22, by kernel_rfl, Try.underlying3⟩, rfl, by kernel_rfl, ⟨Try.underlying22, by kernel_rfl, Try.underlying3⟩⟩
theorem tf5 : (TF Try.prog kint).1 3 := Try.underlying3
set_option maxRecDepth 100000 in
theorem lifted (os : Os) (started : os.Started) (H : Type) (enc : TypeId × Value → H) :
    ReturnsInHanded {} Try.checked os 12 .any (Rows.fnClimbsRankedOfAllSpec.pre6 enc Try.prog Try.f12 Rows.fnClimbsRankedOfAllRow.domain false) (Rows.fnClimbsRankedOfAllSpec.post enc Try.prog Try.f12 false true false false) := by
  refine returnsInHanded_of_change_sized (C := Try.checked) own started (by kernel_rfl) Try.func12
    (ChangeSpec.witness6 (enc := enc) (C := Try.checked) false ⟨#[], #[.agg #[.int .i64 0, .slice none 0 0, .slice none 0 0], .int .i64 0, .agg #[.int .i64 0, .slice none 0 0, .slice none 0 0], .slice none 0 0, .agg #[.int .i64 0, .slice none 0 0, .slice none 0 0], .int .i64 0], []⟩ 8 (by kernel_rfl) (by kernel_rfl) (by kernel_rfl) (by kernel_rfl)) ?_
  intro W base args ds gs before hval0 hW hcnd hsz0 _
  have hval : ∀ (j : Nat) t v, Try.f12.params[j]? = some t → args[j]? = some v → Value.okWide Try.prog W .any base t v := hval0
  have hW' := hW
  obtain ⟨p, q, hA0, hV, rfl, hfz, hnd⟩ := hW
  have hA : DataW.TrodAll enc Try.prog W 0 (fun _ => true) true Try.f12.params.toList args.toList ds p := hA0
  rw [Try.params12] at hA hval
  obtain ⟨v0, vs0, d0, ds0, p0, q0, hargs, rfl, rfl, h0, r0⟩ := trodAll_cons hA
  obtain ⟨v1, vs1, d1, ds1, p1, q1, rfl, rfl, rfl, h1, r1⟩ := trodAll_cons r0
  obtain ⟨v2, vs2, d2, ds2, p2, q2, rfl, rfl, rfl, h2, r2⟩ := trodAll_cons r1
  obtain ⟨v3, vs3, d3, ds3, p3, q3, rfl, rfl, rfl, h3, r3⟩ := trodAll_cons r2
  obtain ⟨v4, vs4, d4, ds4, p4, q4, rfl, rfl, rfl, h4, r4⟩ := trodAll_cons r3
  obtain ⟨v5, vs5, d5, ds5, p5, q5, rfl, rfl, rfl, h5, r5⟩ := trodAll_cons r4
  obtain ⟨rfl, rfl, rfl⟩ := trodAll_nil r5
  obtain rfl : args = #[v0, v1, v2, v3, v4, v5] := by cases args; simp_all
  obtain ⟨rfl, rfl⟩ := trodVars_none hV
  have hv0 := hval 0 96 v0 rfl rfl
  obtain ⟨y0, hp0, hw0⟩ := open_kd (k := kStairs) tf0 hv0 h0
  have lt0 : ∀ x ∈ p0, x.block < W.heap.size := by obtain ⟨m, hm⟩ := h0; exact DataW.trod_lt m _ _ _ hm
  have hv1 := hval 1 3 v1 rfl rfl
  obtain ⟨y1, hp1, hw1⟩ := open_kd (k := kint) tf1 hv1 h1
  have lt1 : ∀ x ∈ p1, x.block < W.heap.size := by obtain ⟨m, hm⟩ := h1; exact DataW.trod_lt m _ _ _ hm
  have hv2 := hval 2 96 v2 rfl rfl
  obtain ⟨y2, hp2, hw2⟩ := open_kd (k := kStairs) tf2 hv2 h2
  have lt2 : ∀ x ∈ p2, x.block < W.heap.size := by obtain ⟨m, hm⟩ := h2; exact DataW.trod_lt m _ _ _ hm
  have hv3 := hval 3 22 v3 rfl rfl
  obtain ⟨y3, hp3, hw3⟩ := open_kd (k := kSint) tf3 hv3 h3
  have lt3 : ∀ x ∈ p3, x.block < W.heap.size := by obtain ⟨m, hm⟩ := h3; exact DataW.trod_lt m _ _ _ hm
  have hv4 := hval 4 96 v4 rfl rfl
  obtain ⟨y4, hp4, hw4⟩ := open_kd (k := kStairs) tf4 hv4 h4
  have lt4 : ∀ x ∈ p4, x.block < W.heap.size := by obtain ⟨m, hm⟩ := h4; exact DataW.trod_lt m _ _ _ hm
  have hv5 := hval 5 3 v5 rfl rfl
  obtain ⟨y5, hp5, hw5⟩ := open_kd (k := kint) tf5 hv5 h5
  have lt5 : ∀ x ∈ p5, x.block < W.heap.size := by obtain ⟨m, hm⟩ := h5; exact DataW.trod_lt m _ _ _ hm
  refine (law_callsO (args := [v0, v1, v2, v3, v4, v5]) rfl h_w_FnClimbsRankedOfAll (x := (y0, y1, y2, y3, y4, y5, ())) trivial ⟨v0, _, [], [], rfl, rfl, hp0, ⟨v1, _, [], [], rfl, rfl, hp1, ⟨v2, _, [], [], rfl, rfl, hp2, ⟨v3, _, [], [], rfl, rfl, hp3, ⟨v4, _, [], [], rfl, rfl, hp4, ⟨v5, _, [], [], rfl, rfl, hp5, ⟨rfl, rfl⟩⟩⟩⟩⟩⟩⟩ (pure_FnClimbsRankedOfAll y0 hw0 y1 hw1 y2 hw2 y3 hw3 y4 hw4 y5 hw5)).mono fun e W' ⟨he, bel⟩ => ?_
  subst he
  exact ⟨_, rfl, _, _, _, [], _, [], hW', trodAll_mk1 (shut_bool Try.underlying4 _), (trodAll_cons_mk (Below.trod laidOut (by kernel_rfl) (of_decide_eq_true (by kernel_rfl)) h0 bel lt0) (trodAll_cons_mk (Below.trod laidOut (by kernel_rfl) (of_decide_eq_true (by kernel_rfl)) h1 bel lt1) (trodAll_cons_mk (Below.trod laidOut (by kernel_rfl) (of_decide_eq_true (by kernel_rfl)) h2 bel lt2) (trodAll_cons_mk (Below.trod laidOut (by kernel_rfl) (of_decide_eq_true (by kernel_rfl)) h3 bel lt3) (trodAll_cons_mk (Below.trod laidOut (by kernel_rfl) (of_decide_eq_true (by kernel_rfl)) h4 bel lt4) (trodAll_cons_mk (Below.trod laidOut (by kernel_rfl) (of_decide_eq_true (by kernel_rfl)) h5 bel lt5) trodAll_mk0)))))), rfl, bel.frame _, fun h => by cases h⟩
theorem c9 : (Rows.fnClimbsRankedOfAllRow.inPlace == Try.checked.prog.inPlace 12) = true := by kernel_rfl
theorem c10 : (Rows.fnClimbsRankedOfAllRow.unfollowed == Try.checked.prog.unfollowed 12) = true := by kernel_rfl
theorem c11 : (Rows.fnClimbsRankedOfAllRow.recurses == Try.checked.prog.recurses 12) = true := by kernel_rfl
theorem c12 : (Rows.fnClimbsRankedOfAllRow.named == Try.checked.prog.varsNamed 12) = true := by kernel_rfl
theorem closed : joinedFacts Try.checked.prog 12 Try.f12 Rows.fnClimbsRankedOfAllSpec Rows.fnClimbsRankedOfAllRow = true := (V.aT (V.aT (V.aT (V.aT (V.aT (V.aT (V.aT (V.aT (V.aT (V.aT (V.aT (V.aT (V.aT (V.aT (V.aT (V.aT (V.aT (V.aT (V.aT (V.aT (V.aT (V.aT (V.aT (V.aT (V.aT (V.aT (V.aT (V.aT (V.aT (V.aT (V.aT (by kernel_rfl) V.c1) V.c2) (by kernel_rfl)) (by kernel_rfl)) (by kernel_rfl)) (by kernel_rfl)) (by kernel_rfl)) (by kernel_rfl)) c9) c10) c11) c12) (by kernel_rfl)) (by kernel_rfl)) (by kernel_rfl)) (by kernel_rfl)) (by kernel_rfl)) (by kernel_rfl)) (by kernel_rfl)) (by kernel_rfl)) (by kernel_rfl)) V.c22) (by kernel_rfl)) V.c24) V.c25) V.c26) V.c27) (by kernel_rfl)) (by kernel_rfl)) (by kernel_rfl)) (by kernel_rfl))
theorem over : Rows.fnClimbsRankedOfAllRow.holds Try.pinned (OpenSpec.ofChange Rows.fnClimbsRankedOfAllSpec) :=
  OpenClaim.holds_of_wide 12 Try.f12 rfl rfl rfl rfl rfl rfl rfl ⟨rfl, rfl, rfl, rfl, rfl⟩ rfl rfl rfl rfl rfl (by kernel_rfl) Try.func12 closed
    (of_decide_eq_true (by kernel_rfl)) (by unfold Func.isWrapper; first | (rw [if_pos (by decide +kernel)]; kernel_rfl) | (rw [if_neg (by decide +kernel)]; exact ⟨rfl, rfl⟩))
    (fun os started H enc _ => lifted os started H enc)
theorem proved : Rows.FnClimbsRankedOfAllSaid := over
#print axioms proved
end Go.Proofs.Ythenlapjhlljnaa.fnClimbsRankedOfAll
namespace Go.Proofs.Ythenlapjhlljnaa
/-- The row, under a short name. -/
theorem fnClimbsRankedOfAll_holds : Rows.FnClimbsRankedOfAllSaid := fnClimbsRankedOfAll.proved
end Go.Proofs.Ythenlapjhlljnaa
