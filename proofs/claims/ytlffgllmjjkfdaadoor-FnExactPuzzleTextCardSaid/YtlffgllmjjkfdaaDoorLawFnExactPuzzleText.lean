/- The row of the law FnExactPuzzleText, and its tied card: whatever its arguments, it returns true. The row lists tables of the library. -/
import Derived.Test.YtlffgllmjjkfdaaDoorCards
import Derived.Test.YtlffgllmjjkfdaaDoorTie
import Derived.ProofKit
import Derived.OpenShut
import Derived.Deep.DeepHandedRow
import Derived.Lib.LaidTab
import Derived.Stop.LaidErr
import Derived.Test.YtlffgllmjjkfdaaDoorPureFnExactPuzzleText
namespace Go.Proofs.YtlffgllmjjkfdaaDoor.fnExactPuzzleText
open Go Go.Ev Go.Proofs Go.ChangeShapes Go.WideShapes Go.ChangeAt Go.RowKit Go.Proofs.YtlffgllmjjkfdaaDoor.V
set_option linter.unusedVariables false
theorem own : ownKnob Tryd.prog.godebug = none := by kernel_rfl
theorem laidOut : laidOutB Tryd.prog = true := by kernel_rfl
theorem tf0 : (TF Tryd.prog kwPuzzle).1 30 := ⟨_, Tryd.underlying30, by kernel_rfl, rfl, by kernel_rfl, ⟨Tryd.underlying28, by kernel_rfl, ⟨_, Tryd.underlying69, by kernel_rfl, rfl, by kernel_rfl, Tryd.underlying3, rfl, by kernel_rfl, Tryd.underlying3, rfl, by kernel_rfl, Tryd.underlying3⟩⟩⟩
theorem listed {W : World} (h : laidMetH Tryd.prog Rows.fnExactPuzzleTextRow.laid W) : laidMet Tryd.prog Rows.fnExactPuzzleTextRow.laid W := h
theorem tab2 {W : World} (h : laidMetH Tryd.prog Rows.fnExactPuzzleTextRow.laid W) : Lib.TabIs Tryd.prog W "internal/strconv.uint64pow10" .u64 Lib.pow10Tab :=
  Lib.tabIs_of_head (by kernel_rfl) (t := 111) (g := 1) (by kernel_rfl) Tryd.underlying111 Tryd.underlying97 (by kernel_rfl) (by kernel_rfl) (laidMet.tail (laidMet.tail (listed h)))
theorem pre_of {n : String} {W : World} {cs : Array Value} {q : Array Value → Prop} (h : W.var? Tryd.prog n = some cs) (hq : q cs) : ∃ g cs, Tryd.prog.globalNamed n = some g ∧ g < W.heap.size ∧ W.var? Tryd.prog n = some cs ∧ q cs := by
  unfold World.var? at h
  rcases hg : Tryd.prog.globalNamed n with _ | g
  · rw [hg] at h; cases h
  · refine ⟨g, cs, rfl, ?_, by unfold World.var?; rw [hg]; rw [hg] at h; exact h, hq⟩
    rw [hg] at h
    simp only [Option.bind_some] at h
    rcases Nat.lt_or_ge g W.heap.size with k | k
    · exact k
    · rw [Array.getElem?_eq_none k] at h; cases h
theorem pre_ok {W : World} (h : laidMetH Tryd.prog Rows.fnExactPuzzleTextRow.laid W) : textPre.p W (· < W.heap.size) := by
  intro x hx
  simp only [textL, List.mem_cons, List.not_mem_nil, or_false] at hx
  rcases hx with rfl
  · exact pre_of (tab2 h) rfl
set_option maxRecDepth 100000 in
theorem contract (H : Type) (enc : TypeId × Value → H) (W : World) (base : Nat) (args : Array Value) (ds gs : List (DataW H)) (before : List MemPlace)
    (hval : ∀ (j : Nat) t v, Tryd.f4.params[j]? = some t → args[j]? = some v → Value.okWide Tryd.prog W .any base t v)
    (hW : DataW.Whole enc Tryd.prog Tryd.f4.params.toList Rows.fnExactPuzzleTextSpec.vars false W args.toList ds gs before) (hL : laidMetH Tryd.prog Rows.fnExactPuzzleTextRow.laid W) :
    Calls Tryd.prog 4 args W fun e W' => ∃ v, e = .returned v ∧ Rows.fnExactPuzzleTextSpec.post enc Tryd.prog Tryd.f4 false true false false W args v W' := by
  have hW' := hW
  obtain ⟨p, q, hA0, hV, rfl, hfz, hnd⟩ := hW
  have hA : DataW.TrodAll enc Tryd.prog W 0 (fun _ => true) true Tryd.f4.params.toList args.toList ds p := hA0
  rw [Tryd.params4] at hA hval
  obtain ⟨v0, vs0, d0, ds0, p0, q0, hargs, rfl, rfl, h0, r0⟩ := trodAll_cons hA
  obtain ⟨rfl, rfl, rfl⟩ := trodAll_nil r0
  obtain rfl : args = #[v0] := by cases args; simp_all
  obtain ⟨rfl, rfl⟩ := trodVars_none hV
  have hv0 := hval 0 30 v0 rfl rfl
  obtain ⟨y0, hp0, hw0⟩ := open_kd (k := kwPuzzle) tf0 hv0 h0
  have lt0 : ∀ x ∈ p0, x.block < W.heap.size := by obtain ⟨m, hm⟩ := h0; exact DataW.trod_lt m _ _ _ hm
  refine (law_callsO (args := [v0]) rfl h_w_FnExactPuzzleText (x := (y0, ())) (pre_ok hL) ⟨v0, _, [], [], rfl, rfl, hp0, ⟨rfl, rfl⟩⟩ (pure_FnExactPuzzleText y0 hw0)).mono fun e W' ⟨he, bel⟩ => ?_
  subst he
  exact ⟨_, rfl, _, _, _, [], _, [], hW', trodAll_mk1 (shut_bool Tryd.underlying4 _), (trodAll_cons_mk (Below.trod laidOut (by kernel_rfl) (of_decide_eq_true (by kernel_rfl)) h0 bel lt0) trodAll_mk0), rfl, bel.frame _, fun h => by cases h⟩
noncomputable def start (os : Os) : World := World.holding Tryd.prog os ⟨#[], #[], []⟩
def put (w : World) (g : Nat) (vs : Array Value) : World := { w with heap := w.heap.modify g fun | .cells _ t fr => .cells vs t fr | o => o }
noncomputable def laidWorld (os : Os) : World := put (put (put (start os) 6 (([0, 1, 28, 2, 29, 14, 24, 3, 30, 22, 20, 15, 25, 17, 4, 8, 31, 27, 13, 23, 21, 19, 16, 7, 26, 12, 18, 6, 11, 5, 10, 9] : List Int).map (Value.int .u8)).toArray) 7 (([0, 1, 56, 2, 57, 49, 28, 3, 61, 58, 42, 50, 38, 29, 17, 4, 62, 47, 59, 36, 45, 43, 51, 22, 53, 39, 33, 30, 24, 18, 12, 5, 63, 55, 48, 27, 60, 41, 37, 16, 46, 35, 44, 21, 52, 32, 23, 11, 54, 26, 40, 15, 34, 20, 31, 10, 25, 14, 19, 9, 13, 8, 7, 6] : List Int).map (Value.int .u8)).toArray) 1 (([1, 10, 100, 1000, 10000, 100000, 1000000, 10000000, 100000000, 1000000000, 10000000000, 100000000000, 1000000000000, 10000000000000, 100000000000000, 1000000000000000, 10000000000000000, 100000000000000000, 1000000000000000000, 10000000000000000000] : List Int).map (Value.int .u64)).toArray
theorem laid_met (os : Os) : laidMet Tryd.prog Rows.fnExactPuzzleTextRow.laid ((laidWorld os).forCall (fun _ _ => 0) ⟨#[], #[.agg #[.slice none 0 0]], []⟩).memory :=
  laidMet_of_run' 8 (by kernel_rfl) (by kernel_rfl)
theorem reads (os : Os) {H : Type} (enc : TypeId × Value → H) : ∃ places, DataW.whole enc Tryd.prog ((laidWorld os).forCall (fun _ _ => 0) ⟨#[], #[.agg #[.slice none 0 0]], []⟩).memory Tryd.f4.params.toList Rows.fnExactPuzzleTextSpec.vars false (#[.agg #[.slice none 0 0]] : Array Value).toList 8 = some ([.agg [.nil]], [], places) :=
  ⟨[], by kernel_rfl⟩
set_option maxRecDepth 100000 in
theorem lifted (os : Os) (started : os.Started) (H : Type) (enc : TypeId × Value → H) (F : Stop.Interp) :
    ReturnsInHanded {} Tryd.checked os 4 .any ((OpenSpec.ofChange Rows.fnExactPuzzleTextSpec).preRow enc Tryd.prog Tryd.f4 Rows.fnExactPuzzleTextRow.domain false Rows.fnExactPuzzleTextRow.laid) (((OpenSpec.ofChange Rows.fnExactPuzzleTextSpec).at F).post enc Tryd.prog Tryd.f4 false true false false) := by
  obtain ⟨places, hx⟩ := reads os enc
  refine returnsInHanded_of_row (C := Tryd.checked) (s := OpenSpec.ofChange Rows.fnExactPuzzleTextSpec) own started (by kernel_rfl) Tryd.func4
    (witness_row_at (enc := enc) (C := Tryd.checked) false (laidWorld os) #[.agg #[.slice none 0 0]] rfl (by kernel_rfl) (by kernel_rfl) (by kernel_rfl)
      (OpenSpec.preRow_of_cond 8 hx (by kernel_rfl) (fun k hk => by cases hk) (by kernel_rfl) (laid_met os))) ?_
  intro W base args ds gs before hval hW _ _ _ hL _ _
  exact contract H enc W base args ds gs before hval hW hL
theorem said : Rows.FnExactPuzzleTextSaid :=
  OpenClaim.holds_of_cond 4 Tryd.f4 rfl rfl rfl rfl rfl rfl rfl ⟨rfl, rfl, rfl, rfl, rfl⟩ rfl rfl rfl rfl rfl (by kernel_rfl) Tryd.func4 (by kernel_rfl)
    (of_decide_eq_true (by kernel_rfl)) (by unfold Func.isWrapper; first | (rw [if_pos (by decide +kernel)]; kernel_rfl) | (rw [if_neg (by decide +kernel)]; exact ⟨rfl, rfl⟩))
    (fun os started H enc _ F => by rw [OpenClaim.pre_eq_preRow]; exact lifted os started H enc F)
theorem plain (f : FuncId) (fn : Func) (hf : Tryd.pinned.checked.prog.funcNamed "loop.example/g01374/laws.FnExactPuzzleText" = some f) (hfn : Tryd.pinned.checked.prog.funcs[f]? = some fn) :
    true = Tryd.pinned.checked.prog.looks [] ∧ ∀ (j : Nat) t, fn.params[j]? = some t → Tryd.pinned.checked.prog.wantsStandIn t = false := by
  obtain rfl : f = 4 := Option.some.inj ((show Tryd.prog.funcNamed "loop.example/g01374/laws.FnExactPuzzleText" = some 4 by kernel_rfl).symm.trans hf) |>.symm
  obtain rfl : fn = Tryd.f4 := (Option.some.inj (Tryd.func4.symm.trans hfn)).symm
  refine ⟨by kernel_rfl, fun j t ht => ?_⟩
  rw [Tryd.params4] at ht
  have hm := Array.mem_of_getElem? ht
  simp only [List.mem_toArray, List.mem_cons, List.not_mem_nil, or_false] at hm
  rcases hm with rfl
  · exact (show Tryd.prog.wantsStandIn 30 = false by kernel_rfl)
theorem card : Rows.FnExactPuzzleTextCardSaid :=
  Claim7.holds_tied_plain_at .later [] _ _ _ _ said (fun _ h => by cases h) (by kernel_rfl) (fun _ h => by cases h) fnExactPuzzleText_row_tie rfl ⟨rfl, rfl⟩ (by kernel_rfl) rfl plain (by kernel_rfl)
#print axioms card
end Go.Proofs.YtlffgllmjjkfdaaDoor.fnExactPuzzleText
namespace Go.Proofs.YtlffgllmjjkfdaaDoor
/-- The card, under a short name. -/
theorem fnExactPuzzleText_holds : Rows.FnExactPuzzleTextCardSaid := fnExactPuzzleText.card
end Go.Proofs.YtlffgllmjjkfdaaDoor
