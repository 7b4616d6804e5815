/- The row of the law FnExactFirstSolution: whatever its arguments, it returns true. No condition. -/
import Derived.Test.YtbemnabojjiikaaRows
import Derived.Test.YtbemnabojjiikaaPureFnExactFirstSolution
namespace Go.Proofs.Ytbemnabojjiikaa.fnExactFirstSolution
open Go Go.Ev Go.Proofs Go.ChangeShapes Go.WideShapes Go.ChangeAt Go.RowKit Go.Proofs.Ytbemnabojjiikaa.V
set_option linter.unusedVariables false
theorem own : ownKnob Try.prog.godebug = none := by kernel_rfl
theorem laidOut : laidOutB Try.prog = true := by kernel_rfl
theorem tf0 : (TF Try.prog kwPuzzle).1 40 := ⟨_, Try.underlying40, by kernel_rfl, rfl, by kernel_rfl, ⟨Try.underlying38, by kernel_rfl, ⟨_, Try.underlying121, by kernel_rfl, rfl, by kernel_rfl, Try.underlying3, rfl, by kernel_rfl, Try.underlying3, rfl, by kernel_rfl, Try.underlying3⟩⟩⟩
set_option maxRecDepth 100000 in
theorem lifted (os : Os) (started : os.Started) (H : Type) (enc : TypeId × Value → H) :
    ReturnsInHanded {} Try.checked os 9 .any (Rows.fnExactFirstSolutionSpec.pre6 enc Try.prog Try.f9 Rows.fnExactFirstSolutionRow.domain false) (Rows.fnExactFirstSolutionSpec.post enc Try.prog Try.f9 false true false false) := by
  refine returnsInHanded_of_change_sized (C := Try.checked) own started (by kernel_rfl) Try.func9
    (ChangeSpec.witness6 (enc := enc) (C := Try.checked) false ⟨#[], #[.agg #[.slice none 0 0]], []⟩ 8 (by kernel_rfl) (by kernel_rfl) (by kernel_rfl) (by kernel_rfl)) ?_
  intro W base args ds gs before hval0 hW hcnd hsz0 _
  have hval : ∀ (j : Nat) t v, Try.f9.params[j]? = some t → args[j]? = some v → Value.okWide Try.prog W .any base t v := hval0
  have hW' := hW
  obtain ⟨p, q, hA0, hV, rfl, hfz, hnd⟩ := hW
  have hA : DataW.TrodAll enc Try.prog W 0 (fun _ => true) true Try.f9.params.toList args.toList ds p := hA0
  rw [Try.params9] at hA hval
  obtain ⟨v0, vs0, d0, ds0, p0, q0, hargs, rfl, rfl, h0, r0⟩ := trodAll_cons hA
  obtain ⟨rfl, rfl, rfl⟩ := trodAll_nil r0
  obtain rfl : args = #[v0] := by cases args; simp_all
  obtain ⟨rfl, rfl⟩ := trodVars_none hV
  have hv0 := hval 0 40 v0 rfl rfl
  obtain ⟨y0, hp0, hw0⟩ := open_kd (k := kwPuzzle) tf0 hv0 h0
  have lt0 : ∀ x ∈ p0, x.block < W.heap.size := by obtain ⟨m, hm⟩ := h0; exact DataW.trod_lt m _ _ _ hm
  refine (law_callsO (args := [v0]) rfl h_w_FnExactFirstSolution (x := (y0, ())) trivial ⟨v0, _, [], [], rfl, rfl, hp0, ⟨rfl, rfl⟩⟩ (pure_FnExactFirstSolution y0 hw0)).mono fun e W' ⟨he, bel⟩ => ?_
  subst he
  exact ⟨_, rfl, _, _, _, [], _, [], hW', trodAll_mk1 (shut_bool Try.underlying4 _), (trodAll_cons_mk (Below.trod laidOut (by kernel_rfl) (of_decide_eq_true (by kernel_rfl)) h0 bel lt0) trodAll_mk0), rfl, bel.frame _, fun h => by cases h⟩
theorem over : Rows.fnExactFirstSolutionRow.holds Try.pinned (OpenSpec.ofChange Rows.fnExactFirstSolutionSpec) :=
  OpenClaim.holds_of_wide 9 Try.f9 rfl rfl rfl rfl rfl rfl rfl ⟨rfl, rfl, rfl, rfl, rfl⟩ rfl rfl rfl rfl rfl (by kernel_rfl) Try.func9 (by kernel_rfl)
    (of_decide_eq_true (by kernel_rfl)) (by unfold Func.isWrapper; first | (rw [if_pos (by decide +kernel)]; kernel_rfl) | (rw [if_neg (by decide +kernel)]; exact ⟨rfl, rfl⟩))
    (fun os started H enc _ => lifted os started H enc)
theorem proved : Rows.FnExactFirstSolutionSaid := over
#print axioms proved
end Go.Proofs.Ytbemnabojjiikaa.fnExactFirstSolution
namespace Go.Proofs.Ytbemnabojjiikaa
/-- The row, under a short name. -/
theorem fnExactFirstSolution_holds : Rows.FnExactFirstSolutionSaid := fnExactFirstSolution.proved
end Go.Proofs.Ytbemnabojjiikaa
