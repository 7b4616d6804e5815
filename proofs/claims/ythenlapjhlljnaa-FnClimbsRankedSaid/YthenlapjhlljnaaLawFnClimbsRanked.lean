/- The row of the law FnClimbsRanked: whatever its arguments, it returns true. No condition. -/
import Derived.Test.YthenlapjhlljnaaRows
import Derived.Test.YthenlapjhlljnaaPureFnClimbsRanked
import Derived.Test.YthenlapjhlljnaaFacts
namespace Go.Proofs.Ythenlapjhlljnaa.fnClimbsRanked
open Go Go.Ev Go.Proofs Go.ChangeShapes Go.WideShapes Go.ChangeAt Go.RowKit Go.Proofs.Ythenlapjhlljnaa.V
set_option linter.unusedVariables false
theorem own : ownKnob Try.prog.godebug = none := by kernel_rfl
theorem laidOut : laidOutB Try.prog = true := by kernel_rfl
theorem tf0 : (TF Try.prog kSuint8).1 38 := ⟨Try.underlying38, by kernel_rfl, Try.underlying5⟩
theorem tf1 : (TF Try.prog kSuint8).1 38 := ⟨Try.underlying38, by kernel_rfl, Try.underlying5⟩
set_option maxRecDepth 100000 in
theorem lifted (os : Os) (started : os.Started) (H : Type) (enc : TypeId × Value → H) :
    ReturnsInHanded {} Try.checked os 13 .any (Rows.fnClimbsRankedSpec.pre6 enc Try.prog Try.f13 Rows.fnClimbsRankedRow.domain false) (Rows.fnClimbsRankedSpec.post enc Try.prog Try.f13 false true false false) := by
  refine returnsInHanded_of_change_sized (C := Try.checked) own started (by kernel_rfl) Try.func13
    (ChangeSpec.witness6 (enc := enc) (C := Try.checked) false ⟨#[], #[.slice none 0 0, .slice none 0 0], []⟩ 8 (by kernel_rfl) (by kernel_rfl) (by kernel_rfl) (by kernel_rfl)) ?_
  intro W base args ds gs before hval0 hW hcnd hsz0 _
  have hval : ∀ (j : Nat) t v, Try.f13.params[j]? = some t → args[j]? = some v → Value.okWide Try.prog W .any base t v := hval0
  have hW' := hW
  obtain ⟨p, q, hA0, hV, rfl, hfz, hnd⟩ := hW
  have hA : DataW.TrodAll enc Try.prog W 0 (fun _ => true) true Try.f13.params.toList args.toList ds p := hA0
  rw [Try.params13] at hA hval
  obtain ⟨v0, vs0, d0, ds0, p0, q0, hargs, rfl, rfl, h0, r0⟩ := trodAll_cons hA
  obtain ⟨v1, vs1, d1, ds1, p1, q1, rfl, rfl, rfl, h1, r1⟩ := trodAll_cons r0
  obtain ⟨rfl, rfl, rfl⟩ := trodAll_nil r1
  obtain rfl : args = #[v0, v1] := by cases args; simp_all
  obtain ⟨rfl, rfl⟩ := trodVars_none hV
  have hv0 := hval 0 38 v0 rfl rfl
  obtain ⟨y0, hp0, hw0⟩ := open_kd (k := kSuint8) tf0 hv0 h0
  have lt0 : ∀ x ∈ p0, x.block < W.heap.size := by obtain ⟨m, hm⟩ := h0; exact DataW.trod_lt m _ _ _ hm
  have hv1 := hval 1 38 v1 rfl rfl
  obtain ⟨y1, hp1, hw1⟩ := open_kd (k := kSuint8) tf1 hv1 h1
  have lt1 : ∀ x ∈ p1, x.block < W.heap.size := by obtain ⟨m, hm⟩ := h1; exact DataW.trod_lt m _ _ _ hm
  refine (law_callsO (args := [v0, v1]) rfl h_w_FnClimbsRanked (x := (y0, y1, ())) trivial ⟨v0, _, [], [], rfl, rfl, hp0, ⟨v1, _, [], [], rfl, rfl, hp1, ⟨rfl, rfl⟩⟩⟩ (pure_FnClimbsRanked y0 hw0 y1 hw1)).mono fun e W' ⟨he, bel⟩ => ?_
  subst he
  exact ⟨_, rfl, _, _, _, [], _, [], hW', trodAll_mk1 (shut_bool Try.underlying4 _), (trodAll_cons_mk (Below.trod laidOut (by kernel_rfl) (of_decide_eq_true (by kernel_rfl)) h0 bel lt0) (trodAll_cons_mk (Below.trod laidOut (by kernel_rfl) (of_decide_eq_true (by kernel_rfl)) h1 bel lt1) trodAll_mk0)), rfl, bel.frame _, fun h => by cases h⟩
theorem c9 : (Rows.fnClimbsRankedRow.inPlace == Try.checked.prog.inPlace 13) = true := by kernel_rfl
theorem c10 : (Rows.fnClimbsRankedRow.unfollowed == Try.checked.prog.unfollowed 13) = true := by kernel_rfl
theorem c11 : (Rows.fnClimbsRankedRow.recurses == Try.checked.prog.recurses 13) = true := by kernel_rfl
theorem c12 : (Rows.fnClimbsRankedRow.named == Try.checked.prog.varsNamed 13) = true := by kernel_rfl
theorem closed : joinedFacts Try.checked.prog 13 Try.f13 Rows.fnClimbsRankedSpec Rows.fnClimbsRankedRow = true := (V.aT (V.aT (V.aT (V.aT (V.aT (V.aT (V.aT (V.aT (V.aT (V.aT (V.aT (V.aT (V.aT (V.aT (V.aT (V.aT (V.aT (V.aT (V.aT (V.aT (V.aT (V.aT (V.aT (V.aT (V.aT (V.aT (V.aT (V.aT (V.aT (V.aT (V.aT (by kernel_rfl) V.c1) V.c2) (by kernel_rfl)) (by kernel_rfl)) (by kernel_rfl)) (by kernel_rfl)) (by kernel_rfl)) (by kernel_rfl)) c9) c10) c11) c12) (by kernel_rfl)) (by kernel_rfl)) (by kernel_rfl)) (by kernel_rfl)) (by kernel_rfl)) (by kernel_rfl)) (by kernel_rfl)) (by kernel_rfl)) (by kernel_rfl)) V.c22) (by kernel_rfl)) V.c24) V.c25) V.c26) V.c27) (by kernel_rfl)) (by kernel_rfl)) (by kernel_rfl)) (by kernel_rfl))
theorem over : Rows.fnClimbsRankedRow.holds Try.pinned (OpenSpec.ofChange Rows.fnClimbsRankedSpec) :=
  OpenClaim.holds_of_wide 13 Try.f13 rfl rfl rfl rfl rfl rfl rfl ⟨rfl, rfl, rfl, rfl, rfl⟩ rfl rfl rfl rfl rfl (by kernel_rfl) Try.func13 closed
    (of_decide_eq_true (by kernel_rfl)) (by unfold Func.isWrapper; first | (rw [if_pos (by decide +kernel)]; kernel_rfl) | (rw [if_neg (by decide +kernel)]; exact ⟨rfl, rfl⟩))
    (fun os started H enc _ => lifted os started H enc)
theorem proved : Rows.FnClimbsRankedSaid := over
#print axioms proved
end Go.Proofs.Ythenlapjhlljnaa.fnClimbsRanked
namespace Go.Proofs.Ythenlapjhlljnaa
/-- The row, under a short name. -/
theorem fnClimbsRanked_holds : Rows.FnClimbsRankedSaid := fnClimbsRanked.proved
end Go.Proofs.Ythenlapjhlljnaa
