/- The row of the law FnExactBreakStep: whatever its arguments, it returns true. No condition. -/
import Derived.Test.YthenlapjhlljnaaRows
import Derived.Test.YthenlapjhlljnaaPureFnExactBreakStep
import Derived.Test.YthenlapjhlljnaaFacts
namespace Go.Proofs.Ythenlapjhlljnaa.fnExactBreakStep
open Go Go.Ev Go.Proofs Go.ChangeShapes Go.WideShapes Go.ChangeAt Go.RowKit Go.Proofs.Ythenlapjhlljnaa.V
set_option linter.unusedVariables false
theorem own : ownKnob Try.prog.godebug = none := by kernel_rfl
theorem laidOut : laidOutB Try.prog = true := by kernel_rfl
theorem tf0 : (TF Try.prog kwStairs).1 111 := ⟨_, Try.underlying111, by kernel_rfl, rfl, by kernel_rfl, Try.underlying3, rfl, by kernel_rfl, ⟨Try.underlying22, by kernel_rfl, Try.underlying3⟩, rfl, by kernel_rfl, ⟨Try.underlying22, by kernel_rfl, Try.underlying3⟩⟩
theorem tf1 : (TF Try.prog kint).1 3 := Try.underlying3
set_option maxRecDepth 100000 in
theorem lifted (os : Os) (started : os.Started) (H : Type) (enc : TypeId × Value → H) :
    ReturnsInHanded {} Try.checked os 14 .any (Rows.fnExactBreakStepSpec.pre6 enc Try.prog Try.f14 Rows.fnExactBreakStepRow.domain false) (Rows.fnExactBreakStepSpec.post enc Try.prog Try.f14 false true false false) := by
  refine returnsInHanded_of_change_sized (C := Try.checked) own started (by kernel_rfl) Try.func14
    (ChangeSpec.witness6 (enc := enc) (C := Try.checked) false ⟨#[], #[.agg #[.int .i64 0, .slice none 0 0, .slice none 0 0], .int .i64 0], []⟩ 8 (by kernel_rfl) (by kernel_rfl) (by kernel_rfl) (by kernel_rfl)) ?_
  intro W base args ds gs before hval0 hW hcnd hsz0 _
  have hval : ∀ (j : Nat) t v, Try.f14.params[j]? = some t → args[j]? = some v → Value.okWide Try.prog W .any base t v := hval0
  have hW' := hW
  obtain ⟨p, q, hA0, hV, rfl, hfz, hnd⟩ := hW
  have hA : DataW.TrodAll enc Try.prog W 0 (fun _ => true) true Try.f14.params.toList args.toList ds p := hA0
  rw [Try.params14] at hA hval
  obtain ⟨v0, vs0, d0, ds0, p0, q0, hargs, rfl, rfl, h0, r0⟩ := trodAll_cons hA
  obtain ⟨v1, vs1, d1, ds1, p1, q1, rfl, rfl, rfl, h1, r1⟩ := trodAll_cons r0
  obtain ⟨rfl, rfl, rfl⟩ := trodAll_nil r1
  obtain rfl : args = #[v0, v1] := by cases args; simp_all
  obtain ⟨rfl, rfl⟩ := trodVars_none hV
  have hv0 := hval 0 111 v0 rfl rfl
  obtain ⟨y0, hp0, hw0⟩ := open_kd (k := kwStairs) tf0 hv0 h0
  have lt0 : ∀ x ∈ p0, x.block < W.heap.size := by obtain ⟨m, hm⟩ := h0; exact DataW.trod_lt m _ _ _ hm
  have hv1 := hval 1 3 v1 rfl rfl
  obtain ⟨y1, hp1, hw1⟩ := open_kd (k := kint) tf1 hv1 h1
  have lt1 : ∀ x ∈ p1, x.block < W.heap.size := by obtain ⟨m, hm⟩ := h1; exact DataW.trod_lt m _ _ _ hm
  refine (law_callsO (args := [v0, v1]) rfl h_w_FnExactBreakStep (x := (y0, y1, ())) trivial ⟨v0, _, [], [], rfl, rfl, hp0, ⟨v1, _, [], [], rfl, rfl, hp1, ⟨rfl, rfl⟩⟩⟩ (pure_FnExactBreakStep y0 hw0 y1 hw1)).mono fun e W' ⟨he, bel⟩ => ?_
  subst he
  exact ⟨_, rfl, _, _, _, [], _, [], hW', trodAll_mk1 (shut_bool Try.underlying4 _), (trodAll_cons_mk (Below.trod laidOut (by kernel_rfl) (of_decide_eq_true (by kernel_rfl)) h0 bel lt0) (trodAll_cons_mk (Below.trod laidOut (by kernel_rfl) (of_decide_eq_true (by kernel_rfl)) h1 bel lt1) trodAll_mk0)), rfl, bel.frame _, fun h => by cases h⟩
theorem c9 : (Rows.fnExactBreakStepRow.inPlace == Try.checked.prog.inPlace 14) = true := by kernel_rfl
theorem c10 : (Rows.fnExactBreakStepRow.unfollowed == Try.checked.prog.unfollowed 14) = true := by kernel_rfl
theorem c11 : (Rows.fnExactBreakStepRow.recurses == Try.checked.prog.recurses 14) = true := by kernel_rfl
theorem c12 : (Rows.fnExactBreakStepRow.named == Try.checked.prog.varsNamed 14) = true := by kernel_rfl
theorem closed : joinedFacts Try.checked.prog 14 Try.f14 Rows.fnExactBreakStepSpec Rows.fnExactBreakStepRow = true := (V.aT (V.aT (V.aT (V.aT (V.aT (V.aT (V.aT (V.aT (V.aT (V.aT (V.aT (V.aT (V.aT (V.aT (V.aT (V.aT (V.aT (V.aT (V.aT (V.aT (V.aT (V.aT (V.aT (V.aT (V.aT (V.aT (V.aT (V.aT (V.aT (V.aT (V.aT (by kernel_rfl) V.c1) V.c2) (by kernel_rfl)) (by kernel_rfl)) (by kernel_rfl)) (by kernel_rfl)) (by kernel_rfl)) (by kernel_rfl)) c9) c10) c11) c12) (by kernel_rfl)) (by kernel_rfl)) (by kernel_rfl)) (by kernel_rfl)) (by kernel_rfl)) (by kernel_rfl)) (by kernel_rfl)) (by kernel_rfl)) (by kernel_rfl)) V.c22) (by kernel_rfl)) V.c24) V.c25) V.c26) V.c27) (by kernel_rfl)) (by kernel_rfl)) (by kernel_rfl)) (by kernel_rfl))
theorem over : Rows.fnExactBreakStepRow.holds Try.pinned (OpenSpec.ofChange Rows.fnExactBreakStepSpec) :=
  OpenClaim.holds_of_wide 14 Try.f14 rfl rfl rfl rfl rfl rfl rfl ⟨rfl, rfl, rfl, rfl, rfl⟩ rfl rfl rfl rfl rfl (by kernel_rfl) Try.func14 closed
    (of_decide_eq_true (by kernel_rfl)) (by unfold Func.isWrapper; first | (rw [if_pos (by decide +kernel)]; kernel_rfl) | (rw [if_neg (by decide +kernel)]; exact ⟨rfl, rfl⟩))
    (fun os started H enc _ => lifted os started H enc)
theorem proved : Rows.FnExactBreakStepSaid := over
#print axioms proved
end Go.Proofs.Ythenlapjhlljnaa.fnExactBreakStep
namespace Go.Proofs.Ythenlapjhlljnaa
/-- The row, under a short name. -/
theorem fnExactBreakStep_holds : Rows.FnExactBreakStepSaid := fnExactBreakStep.proved
end Go.Proofs.Ythenlapjhlljnaa
