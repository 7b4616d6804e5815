/- The row of the law FnHousesBuilt, and its tied card: whatever its arguments, it returns true. The row lists tables of the library. -/
import Derived.Test.YtmiimfpdlkmjhaaGreatDoorCards
import Derived.Test.YtmiimfpdlkmjhaaGreatDoorTie
import Derived.ProofKit
import Derived.OpenShut
import Derived.Deep.DeepHandedRow
import Derived.Lib.LaidTab
import Derived.Stop.LaidErr
import Derived.Deep.DeepWitnessRowRef
import Derived.LaidMore
import Derived.MakeChecks
import Derived.Lib.LaidU8
import Derived.Test.YtmiimfpdlkmjhaaGreatDoorPureFnHousesBuilt
namespace Go.Proofs.YtmiimfpdlkmjhaaGreatDoor.fnHousesBuilt
open Go Go.Ev Go.Proofs Go.ChangeShapes Go.WideShapes Go.ChangeAt Go.RowKit Go.Proofs.YtmiimfpdlkmjhaaGreatDoor.V
set_option linter.unusedVariables false
theorem own : ownKnob Tryz.prog.godebug = none := by kernel_rfl
theorem laidOut : laidOutB Tryz.prog = true := by kernel_rfl
theorem tf0 : (TF Tryz.prog kSuint8).1 22 := ⟨Tryz.underlying22, by kernel_rfl, Tryz.underlying5⟩
theorem tf1 : (TF Tryz.prog kSuint8).1 22 := ⟨Tryz.underlying22, by kernel_rfl, Tryz.underlying5⟩
theorem listed {W : World} (h : laidMetH Tryz.prog Rows.fnHousesBuiltRow.laid W) : laidMet Tryz.prog Rows.fnHousesBuiltRow.laid W := by rw [MakeChecks.laidMetH_plain _ _ _ (by kernel_rfl)] at h; exact h
theorem tab2 {W : World} (h : laidMetH Tryz.prog Rows.fnHousesBuiltRow.laid W) : Lib.TabIs Tryz.prog W "internal/strconv.uint64pow10" .u64 Lib.pow10Tab :=
  Lib.tabIs_of_head (by kernel_rfl) (t := 103) (g := 1) (by kernel_rfl) Tryz.underlying103 Tryz.underlying66 (by kernel_rfl) (by kernel_rfl) (laidMet.tail (laidMet.tail (listed h)))
theorem pre_of {n : String} {W : World} {cs : Array Value} {q : Array Value → Prop} (h : W.var? Tryz.prog n = some cs) (hq : q cs) : ∃ g cs, Tryz.prog.globalNamed n = some g ∧ g < W.heap.size ∧ W.var? Tryz.prog n = some cs ∧ q cs := by
  unfold World.var? at h
  rcases hg : Tryz.prog.globalNamed n with _ | g
  · rw [hg] at h; cases h
  · refine ⟨g, cs, rfl, ?_, by unfold World.var?; rw [hg]; rw [hg] at h; exact h, hq⟩
    rw [hg] at h
    simp only [Option.bind_some] at h
    rcases Nat.lt_or_ge g W.heap.size with k | k
    · exact k
    · rw [Array.getElem?_eq_none k] at h; cases h
theorem star : "*" ++ "errors.errorString" = "*errors.errorString" := by decide
theorem rowE (u : TypeId) (h : Tryz.prog.typeName? 3 u = some "*errors.errorString") : u = 123 :=
  typeName_ptr_named (nm := "errors.errorString") (by rw [star]; kernel_rfl) (by kernel_rfl) (by decide) u (by rw [star]; exact h)
theorem sent5 {W : World} (h : laidMetH Tryz.prog Rows.fnHousesBuiltRow.laid W) : ∃ a, W.var? Tryz.prog "strconv.ErrSyntax" = some #[.iface 123 (.pointer (some a))] := by
  obtain ⟨a, _, hv, _⟩ := laid_sentinel (laidMet.tail (laidMet.tail (laidMet.tail (laidMet.tail (laidMet.tail (listed h)))))) (by kernel_rfl) (g := 2) (ti := 77) (by kernel_rfl) Tryz.underlying77 rowE Tryz.underlying123 Tryz.underlying125 rfl rfl Tryz.underlying9 (by kernel_rfl) (by kernel_rfl)
  exact ⟨a, hv⟩
theorem sent4 {W : World} (h : laidMetH Tryz.prog Rows.fnHousesBuiltRow.laid W) : ∃ a, W.var? Tryz.prog "strconv.ErrRange" = some #[.iface 123 (.pointer (some a))] := by
  obtain ⟨a, _, hv, _⟩ := laid_sentinel (laidMet.tail (laidMet.tail (laidMet.tail (laidMet.tail (listed h))))) (by kernel_rfl) (g := 3) (ti := 77) (by kernel_rfl) Tryz.underlying77 rowE Tryz.underlying123 Tryz.underlying125 rfl rfl Tryz.underlying9 (by kernel_rfl) (by kernel_rfl)
  exact ⟨a, hv⟩
theorem shaped0 {W : World} (h : W.ShapedOpen Tryz.prog) : ∃ m, W.var? Tryz.prog "internal/bytealg.MaxLen" = some #[.int .i64 m] := by
  obtain ⟨cs, hh, hs, _⟩ := h.1 0 #[.int .i64 0] 3 (of_decide_eq_true (by kernel_rfl)) (by kernel_rfl)
  obtain ⟨m, hm⟩ : ∃ m, W.cell? ⟨0, 0, none⟩ = some (.int .i64 m) := lsplit.s1_3 W h
  have hs : cs.size = 1 := hs
  obtain ⟨l⟩ := cs
  match l, hs with
  | [x], _ =>
    have hx : x = .int .i64 m := by
      unfold World.cell? at hm
      simp only [hh] at hm
      simpa using hm
    refine ⟨m, ?_⟩
    have hg : Tryz.prog.globalNamed "internal/bytealg.MaxLen" = some 0 := by kernel_rfl
    unfold World.var?
    rw [hg, Option.bind_some, hh, hx]
theorem pre_ok {W : World} (h : laidMetH Tryz.prog Rows.fnHousesBuiltRow.laid W) (hsh : W.ShapedOpen Tryz.prog) : textPre.p W (· < W.heap.size) := by
  intro x hx
  simp only [textL, List.mem_cons, List.not_mem_nil, or_false] at hx
  rcases hx with rfl | rfl | rfl | rfl
  · exact pre_of (tab2 h) rfl
  · obtain ⟨m, hv⟩ := shaped0 hsh
    exact pre_of hv ⟨m, rfl⟩
  · obtain ⟨a, hv⟩ := sent5 h
    exact pre_of hv ⟨_, rfl, .inr ⟨_, _, rfl⟩⟩
  · obtain ⟨a, hv⟩ := sent4 h
    exact pre_of hv ⟨_, rfl, .inr ⟨_, _, rfl⟩⟩
set_option maxRecDepth 100000 in
theorem contract (H : Type) (enc : TypeId × Value → H) (W : World) (base : Nat) (args : Array Value) (ds gs : List (DataW H)) (before : List MemPlace)
    (hval : ∀ (j : Nat) t v, Tryz.f3.params[j]? = some t → args[j]? = some v → Value.okWide Tryz.prog W .any base t v)
    (hW : DataW.Whole enc Tryz.prog Tryz.f3.params.toList Rows.fnHousesBuiltSpec.vars false W args.toList ds gs before) (hL : laidMetH Tryz.prog Rows.fnHousesBuiltRow.laid W) (hsh : W.ShapedOpen Tryz.prog) :
    Calls Tryz.prog 3 args W fun e W' => ∃ v, e = .returned v ∧ Rows.fnHousesBuiltSpec.post enc Tryz.prog Tryz.f3 false true false false W args v W' := by
  have hW' := hW
  obtain ⟨p, q, hA0, hV, rfl, hfz, hnd⟩ := hW
  have hA : DataW.TrodAll enc Tryz.prog W 0 (fun _ => true) true Tryz.f3.params.toList args.toList ds p := hA0
  rw [Tryz.params3] at hA hval
  obtain ⟨v0, vs0, d0, ds0, p0, q0, hargs, rfl, rfl, h0, r0⟩ := trodAll_cons hA
  obtain ⟨v1, vs1, d1, ds1, p1, q1, rfl, rfl, rfl, h1, r1⟩ := trodAll_cons r0
  obtain ⟨rfl, rfl, rfl⟩ := trodAll_nil r1
  obtain rfl : args = #[v0, v1] := by cases args; simp_all
  obtain ⟨rfl, rfl⟩ := trodVars_none hV
  have hv0 := hval 0 22 v0 rfl rfl
  obtain ⟨y0, hp0, hw0⟩ := open_kd (k := kSuint8) tf0 hv0 h0
  have lt0 : ∀ x ∈ p0, x.block < W.heap.size := by obtain ⟨m, hm⟩ := h0; exact DataW.trod_lt m _ _ _ hm
  have hv1 := hval 1 22 v1 rfl rfl
  obtain ⟨y1, hp1, hw1⟩ := open_kd (k := kSuint8) tf1 hv1 h1
  have lt1 : ∀ x ∈ p1, x.block < W.heap.size := by obtain ⟨m, hm⟩ := h1; exact DataW.trod_lt m _ _ _ hm
  refine (law_callsO (args := [v0, v1]) rfl h_w_FnHousesBuilt (x := (y0, y1, ())) (pre_ok hL hsh) ⟨v0, _, [], [], rfl, rfl, hp0, ⟨v1, _, [], [], rfl, rfl, hp1, ⟨rfl, rfl⟩⟩⟩ (pure_FnHousesBuilt y0 hw0 y1 hw1)).mono fun e W' ⟨he, bel⟩ => ?_
  subst he
  exact ⟨_, rfl, _, _, _, [], _, [], hW', trodAll_mk1 (shut_bool Tryz.underlying4 _), (trodAll_cons_mk (Below.trod laidOut (by kernel_rfl) (of_decide_eq_true (by kernel_rfl)) h0 bel lt0) (trodAll_cons_mk (Below.trod laidOut (by kernel_rfl) (of_decide_eq_true (by kernel_rfl)) h1 bel lt1) trodAll_mk0)), rfl, bel.frame _, fun h => by cases h⟩
noncomputable def start (os : Os) : World := World.holding Tryz.prog os ⟨#[], #[], []⟩
def put (w : World) (g : Nat) (vs : Array Value) : World := { w with heap := w.heap.modify g fun | .cells _ t fr => .cells vs t fr | o => o }
noncomputable def laidWorld (os : Os) : World := put (World.doorLaid Tryz.prog 72 os) 4 ((Lib.firstTab : List Int).map (Value.int .u8)).toArray
theorem laid_met (os : Os) : laidMet Tryz.prog Rows.fnHousesBuiltRow.laid ((laidWorld os).forCall (fun _ _ => 0) ⟨#[], #[.slice none 0 0, .slice none 0 0], []⟩).memory :=
  laidMet_of_run' 8 (by kernel_rfl) (by kernel_rfl)
theorem reads (os : Os) {H : Type} (enc : TypeId × Value → H) : ∃ places, DataW.whole enc Tryz.prog ((laidWorld os).forCall (fun _ _ => 0) ⟨#[], #[.slice none 0 0, .slice none 0 0], []⟩).memory Tryz.f3.params.toList Rows.fnHousesBuiltSpec.vars false (#[.slice none 0 0, .slice none 0 0] : Array Value).toList 8 = some ([.nil, .nil], [], places) :=
  ⟨[], by kernel_rfl⟩
set_option maxRecDepth 100000 in
theorem lifted (os : Os) (started : os.Started) (H : Type) (enc : TypeId × Value → H) (F : Stop.Interp) :
    ReturnsInHanded {} Tryz.checked os 3 .any ((OpenSpec.ofChange Rows.fnHousesBuiltSpec).preRow enc Tryz.prog Tryz.f3 Rows.fnHousesBuiltRow.domain false Rows.fnHousesBuiltRow.laid) (((OpenSpec.ofChange Rows.fnHousesBuiltSpec).at F).post enc Tryz.prog Tryz.f3 false true false false) := by
  obtain ⟨places, hx⟩ := reads os enc
  refine returnsInHanded_of_row (C := Tryz.checked) (s := OpenSpec.ofChange Rows.fnHousesBuiltSpec) own started (by kernel_rfl) Tryz.func3
    (witness_row_atRef (enc := enc) (C := Tryz.checked) false (laidWorld os) #[.slice none 0 0, .slice none 0 0] rfl (by kernel_rfl) (by kernel_rfl) (by kernel_rfl)
      (OpenSpec.preRow_of_cond 8 hx (by kernel_rfl) (fun k hk => by cases hk) (by kernel_rfl) (by rw [MakeChecks.laidMetH_plain _ _ _ (by kernel_rfl)]; exact laid_met os))) ?_
  intro W base args ds gs before hval hW _ _ _ hL hsh _
  exact contract H enc W base args ds gs before hval hW hL hsh
theorem said : Rows.FnHousesBuiltSaid :=
  OpenClaim.holds_of_cond 3 Tryz.f3 rfl rfl rfl rfl rfl rfl rfl ⟨rfl, rfl, rfl, rfl, rfl⟩ rfl rfl rfl rfl rfl (by kernel_rfl) Tryz.func3 (by kernel_rfl)
    (of_decide_eq_true (by kernel_rfl)) (by unfold Func.isWrapper; first | (rw [if_pos (by decide +kernel)]; kernel_rfl) | (rw [if_neg (by decide +kernel)]; exact ⟨rfl, rfl⟩))
    (fun os started H enc _ F => by rw [OpenClaim.pre_eq_preRow]; exact lifted os started H enc F)
theorem plain (f : FuncId) (fn : Func) (hf : Tryz.pinned.checked.prog.funcNamed "loop.example/g01374/laws.FnHousesBuilt" = some f) (hfn : Tryz.pinned.checked.prog.funcs[f]? = some fn) :
    true = Tryz.pinned.checked.prog.looks [] ∧ ∀ (j : Nat) t, fn.params[j]? = some t → Tryz.pinned.checked.prog.wantsStandIn t = false := by
  obtain rfl : f = 3 := Option.some.inj ((show Tryz.prog.funcNamed "loop.example/g01374/laws.FnHousesBuilt" = some 3 by kernel_rfl).symm.trans hf) |>.symm
  obtain rfl : fn = Tryz.f3 := (Option.some.inj (Tryz.func3.symm.trans hfn)).symm
  refine ⟨by kernel_rfl, fun j t ht => ?_⟩
  rw [Tryz.params3] at ht
  have hm := Array.mem_of_getElem? ht
  simp only [List.mem_toArray, List.mem_cons, List.not_mem_nil, or_false] at hm
  rcases hm with rfl | rfl
  · exact (show Tryz.prog.wantsStandIn 22 = false by kernel_rfl)
  · exact (show Tryz.prog.wantsStandIn 22 = false by kernel_rfl)
theorem card : Rows.FnHousesBuiltCardSaid :=
  Claim7.holds_tied_plain_at .later [] _ _ _ _ said (fun _ h => by cases h) (by kernel_rfl) (fun _ h => by cases h) fnHousesBuilt_row_tie rfl ⟨rfl, rfl⟩ (by kernel_rfl) rfl plain (by kernel_rfl)
#print axioms card
end Go.Proofs.YtmiimfpdlkmjhaaGreatDoor.fnHousesBuilt
namespace Go.Proofs.YtmiimfpdlkmjhaaGreatDoor
/-- The card, under a short name. -/
theorem fnHousesBuilt_holds : Rows.FnHousesBuiltCardSaid := fnHousesBuilt.card
end Go.Proofs.YtmiimfpdlkmjhaaGreatDoor
