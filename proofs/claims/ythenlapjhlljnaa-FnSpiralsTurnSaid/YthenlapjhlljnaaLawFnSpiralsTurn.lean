/- The row of the law FnSpiralsTurn: whatever its arguments, it returns true. No condition. -/
import Derived.Test.YthenlapjhlljnaaRows
import Derived.Test.YthenlapjhlljnaaPureFnSpiralsTurn
import Derived.Test.YthenlapjhlljnaaFacts
namespace Go.Proofs.Ythenlapjhlljnaa.fnSpiralsTurn
open Go Go.Ev Go.Proofs Go.ChangeShapes Go.WideShapes Go.ChangeAt Go.RowKit Go.Proofs.Ythenlapjhlljnaa.V
set_option linter.unusedVariables false
theorem own : ownKnob Try.prog.godebug = none := by kernel_rfl
theorem laidOut : laidOutB Try.prog = true := by kernel_rfl
theorem tf0 : (TF Try.prog kSuint8).1 38 := ⟨Try.underlying38, by kernel_rfl, Try.underlying5⟩
theorem tf1 : (TF Try.prog kSuint8).1 38 := ⟨Try.underlying38, by kernel_rfl, Try.underlying5⟩
set_option maxRecDepth 100000 in
theorem lifted (os : Os) (started : os.Started) (H : Type) (enc : TypeId × Value → H) :
    ReturnsInHanded {} Try.checked os 7 .any (Rows.fnSpiralsTurnSpec.pre6 enc Try.prog Try.f7 Rows.fnSpiralsTurnRow.domain false) (Rows.fnSpiralsTurnSpec.post enc Try.prog Try.f7 false true false false) := by
  refine returnsInHanded_of_change_sized (C := Try.checked) own started (by kernel_rfl) Try.func7
    (ChangeSpec.witness6 (enc := enc) (C := Try.checked) false ⟨#[], #[.slice none 0 0, .slice none 0 0], []⟩ 8 (by kernel_rfl) (by kernel_rfl) (by kernel_rfl) (by kernel_rfl)) ?_
  intro W base args ds gs before hval0 hW hcnd hsz0 _
  have hval : ∀ (j : Nat) t v, Try.f7.params[j]? = some t → args[j]? = some v → Value.okWide Try.prog W .any base t v := hval0
  have hW' := hW
  obtain ⟨p, q, hA0, hV, rfl, hfz, hnd⟩ := hW
  have hA : DataW.TrodAll enc Try.prog W 0 (fun _ => true) true Try.f7.params.toList args.toList ds p := hA0
  rw [Try.params7] at hA hval
  obtain ⟨v0, vs0, d0, ds0, p0, q0, hargs, rfl, rfl, h0, r0⟩ := trodAll_cons hA
  obtain ⟨v1, vs1, d1, ds1, p1, q1, rfl, rfl, rfl, h1, r1⟩ := trodAll_cons r0
  obtain ⟨rfl, rfl, rfl⟩ := trodAll_nil r1
  obtain rfl : args = #[v0, v1] := by cases args; simp_all
  obtain ⟨rfl, rfl⟩ := trodVars_none hV
  have hv0 := hval 0 38 v0 rfl rfl
  obtain ⟨y0, hp0, hw0⟩ := open_kd (k := kSuint8) tf0 hv0 h0
  have lt0 : ∀ x ∈ p0, x.block < W.heap.size := by obtain ⟨m, hm⟩ := h0; exact DataW.trod_lt m _ _ _ hm
  have hv1 := hval 1 38 v1 rfl rfl
  obtain ⟨y1, hp1, hw1⟩ := open_kd (k := kSuint8) tf1 hv1 h1
  have lt1 : ∀ x ∈ p1, x.block < W.heap.size := by obtain ⟨m, hm⟩ := h1; exact DataW.trod_lt m _ _ _ hm
  refine (law_callsO (args := [v0, v1]) rfl h_w_FnSpiralsTurn (x := (y0, y1, ())) trivial ⟨v0, _, [], [], rfl, rfl, hp0, ⟨v1, _, [], [], rfl, rfl, hp1, ⟨rfl, rfl⟩⟩⟩ (pure_FnSpiralsTurn y0 hw0 y1 hw1)).mono fun e W' ⟨he, bel⟩ => ?_
  subst he
  exact ⟨_, rfl, _, _, _, [], _, [], hW', trodAll_mk1 (shut_bool Try.underlying4 _), (trodAll_cons_mk (Below.trod laidOut (by kernel_rfl) (of_decide_eq_true (by kernel_rfl)) h0 bel lt0) (trodAll_cons_mk (Below.trod laidOut (by kernel_rfl) (of_decide_eq_true (by kernel_rfl)) h1 bel lt1) trodAll_mk0)), rfl, bel.frame _, fun h => by cases h⟩
theorem c9 : (Rows.fnSpiralsTurnRow.inPlace == Try.checked.prog.inPlace 7) = true := by kernel_rfl
theorem c10 : (Rows.fnSpiralsTurnRow.unfollowed == Try.checked.prog.unfollowed 7) = true := by kernel_rfl
theorem c11 : (Rows.fnSpiralsTurnRow.recurses == Try.checked.prog.recurses 7) = true := by kernel_rfl
theorem c12 : (Rows.fnSpiralsTurnRow.named == Try.checked.prog.varsNamed 7) = true := by kernel_rfl
theorem closed : joinedFacts Try.checked.prog 7 Try.f7 Rows.fnSpiralsTurnSpec Rows.fnSpiralsTurnRow = true := (V.aT (V.aT (V.aT (V.aT (V.aT (V.aT (V.aT (V.aT (V.aT (V.aT (V.aT (V.aT (V.aT (V.aT (V.aT (V.aT (V.aT (V.aT (V.aT (V.aT (V.aT (V.aT (V.aT (V.aT (V.aT (V.aT (V.aT (V.aT (V.aT (V.aT (V.aT (by kernel_rfl) V.c1) V.c2) (by kernel_rfl)) (by kernel_rfl)) (by kernel_rfl)) (by kernel_rfl)) (by kernel_rfl)) (by kernel_rfl)) c9) c10) c11) c12) (by kernel_rfl)) (by kernel_rfl)) (by kernel_rfl)) (by kernel_rfl)) (by kernel_rfl)) (by kernel_rfl)) (by kernel_rfl)) (by kernel_rfl)) (by kernel_rfl)) V.c22) (by kernel_rfl)) V.c24) V.c25) V.c26) V.c27) (by kernel_rfl)) (by kernel_rfl)) (by kernel_rfl)) (by kernel_rfl))
theorem over : Rows.fnSpiralsTurnRow.holds Try.pinned (OpenSpec.ofChange Rows.fnSpiralsTurnSpec) :=
  OpenClaim.holds_of_wide 7 Try.f7 rfl rfl rfl rfl rfl rfl rfl ⟨rfl, rfl, rfl, rfl, rfl⟩ rfl rfl rfl rfl rfl (by kernel_rfl) Try.func7 closed
    (of_decide_eq_true (by kernel_rfl)) (by unfold Func.isWrapper; first | (rw [if_pos (by decide +kernel)]; kernel_rfl) | (rw [if_neg (by decide +kernel)]; exact ⟨rfl, rfl⟩))
    (fun os started H enc _ => lifted os started H enc)
theorem proved : Rows.FnSpiralsTurnSaid := over
#print axioms proved
end Go.Proofs.Ythenlapjhlljnaa.fnSpiralsTurn
namespace Go.Proofs.Ythenlapjhlljnaa
/-- The row, under a short name. -/
theorem fnSpiralsTurn_holds : Rows.FnSpiralsTurnSaid := fnSpiralsTurn.proved
end Go.Proofs.Ythenlapjhlljnaa
