/- The row of the law FnCarpetsCutOfAll, and its tied card: whatever its arguments, it returns true. The row lists tables of the library. -/
import Derived.Test.YtddiigejhjfhdaaGreatDoorCards
import Derived.Test.YtddiigejhjfhdaaGreatDoorTie
import Derived.ProofKit
import Derived.OpenShut
import Derived.Deep.DeepHandedRow
import Derived.Lib.LaidTab
import Derived.Stop.LaidErr
import Derived.Deep.DeepWitnessRowRef
import Derived.LaidMore
import Derived.MakeChecks
import Derived.Lib.LaidU8
import Derived.Test.YtddiigejhjfhdaaGreatDoorPureFnCarpetsCutOfAll
namespace Go.Proofs.YtddiigejhjfhdaaGreatDoor.fnCarpetsCutOfAll
open Go Go.Ev Go.Proofs Go.ChangeShapes Go.WideShapes Go.ChangeAt Go.RowKit Go.Proofs.YtddiigejhjfhdaaGreatDoor.V
set_option linter.unusedVariables false
theorem own : ownKnob Tryz.prog.godebug = none := by kernel_rfl
theorem laidOut : laidOutB Tryz.prog = true := by kernel_rfl
theorem tf0 : (TF Tryz.prog kSint).1 22 := ⟨Tryz.underlying22, by kernel_rfl, Tryz.underlying3⟩
theorem tf1 : (TF Tryz.prog kint).1 3 := Tryz.underlying3
theorem tf2 : (TF Tryz.prog kint).1 3 := Tryz.underlying3
theorem tf3 : (TF Tryz.prog kSint).1 22 := ⟨Tryz.underlying22, by kernel_rfl, Tryz.underlying3⟩
theorem tf4 : (TF Tryz.prog kint).1 3 := Tryz.underlying3
theorem tf5 : (TF Tryz.prog kSint).1 22 := ⟨Tryz.underlying22, by kernel_rfl, Tryz.underlying3⟩
theorem tf6 : (TF Tryz.prog kint).1 3 := Tryz.underlying3
theorem tf7 : (TF Tryz.prog kSint).1 22 := ⟨Tryz.underlying22, by kernel_rfl, Tryz.underlying3⟩
theorem tf8 : (TF Tryz.prog kint).1 3 := Tryz.underlying3
theorem tf9 : (TF Tryz.prog kint).1 3 := Tryz.underlying3
theorem tf10 : (TF Tryz.prog kstring).1 9 := Tryz.underlying9
theorem tf11 : (TF Tryz.prog kSint).1 22 := ⟨Tryz.underlying22, by kernel_rfl, Tryz.underlying3⟩
theorem listed {W : World} (h : laidMetH Tryz.prog Rows.fnCarpetsCutOfAllRow.laid W) : laidMet Tryz.prog Rows.fnCarpetsCutOfAllRow.laid W := by rw [MakeChecks.laidMetH_plain _ _ _ (by kernel_rfl)] at h; exact h
theorem tab2 {W : World} (h : laidMetH Tryz.prog Rows.fnCarpetsCutOfAllRow.laid W) : Lib.TabIs Tryz.prog W "internal/strconv.uint64pow10" .u64 Lib.pow10Tab :=
  Lib.tabIs_of_head (by kernel_rfl) (t := 146) (g := 3) (by kernel_rfl) Tryz.underlying146 Tryz.underlying67 (by kernel_rfl) (by kernel_rfl) (laidMet.tail (laidMet.tail (listed h)))
theorem pre_of {n : String} {W : World} {cs : Array Value} {q : Array Value → Prop} (h : W.var? Tryz.prog n = some cs) (hq : q cs) : ∃ g cs, Tryz.prog.globalNamed n = some g ∧ g < W.heap.size ∧ W.var? Tryz.prog n = some cs ∧ q cs := by
  unfold World.var? at h
  rcases hg : Tryz.prog.globalNamed n with _ | g
  · rw [hg] at h; cases h
  · refine ⟨g, cs, rfl, ?_, by unfold World.var?; rw [hg]; rw [hg] at h; exact h, hq⟩
    rw [hg] at h
    simp only [Option.bind_some] at h
    rcases Nat.lt_or_ge g W.heap.size with k | k
    · exact k
    · rw [Array.getElem?_eq_none k] at h; cases h
theorem star : "*" ++ "errors.errorString" = "*errors.errorString" := by decide
theorem rowE (u : TypeId) (h : Tryz.prog.typeName? 3 u = some "*errors.errorString") : u = 158 :=
  typeName_ptr_named (nm := "errors.errorString") (by rw [star]; kernel_rfl) (by kernel_rfl) (by decide) u (by rw [star]; exact h)
theorem sent5 {W : World} (h : laidMetH Tryz.prog Rows.fnCarpetsCutOfAllRow.laid W) : ∃ a, W.var? Tryz.prog "strconv.ErrSyntax" = some #[.iface 158 (.pointer (some a))] := by
  obtain ⟨a, _, hv, _⟩ := laid_sentinel (laidMet.tail (laidMet.tail (laidMet.tail (laidMet.tail (laidMet.tail (listed h)))))) (by kernel_rfl) (g := 1) (ti := 91) (by kernel_rfl) Tryz.underlying91 rowE Tryz.underlying158 Tryz.underlying160 rfl rfl Tryz.underlying9 (by kernel_rfl) (by kernel_rfl)
  exact ⟨a, hv⟩
theorem sent4 {W : World} (h : laidMetH Tryz.prog Rows.fnCarpetsCutOfAllRow.laid W) : ∃ a, W.var? Tryz.prog "strconv.ErrRange" = some #[.iface 158 (.pointer (some a))] := by
  obtain ⟨a, _, hv, _⟩ := laid_sentinel (laidMet.tail (laidMet.tail (laidMet.tail (laidMet.tail (listed h))))) (by kernel_rfl) (g := 2) (ti := 91) (by kernel_rfl) Tryz.underlying91 rowE Tryz.underlying158 Tryz.underlying160 rfl rfl Tryz.underlying9 (by kernel_rfl) (by kernel_rfl)
  exact ⟨a, hv⟩
theorem shaped0 {W : World} (h : W.ShapedOpen Tryz.prog) : ∃ m, W.var? Tryz.prog "internal/bytealg.MaxLen" = some #[.int .i64 m] := by
  obtain ⟨cs, hh, hs, _⟩ := h.1 0 #[.int .i64 0] 3 (of_decide_eq_true (by kernel_rfl)) (by kernel_rfl)
  obtain ⟨m, hm⟩ : ∃ m, W.cell? ⟨0, 0, none⟩ = some (.int .i64 m) := lsplit.s1_3 W h
  have hs : cs.size = 1 := hs
  obtain ⟨l⟩ := cs
  match l, hs with
  | [x], _ =>
    have hx : x = .int .i64 m := by
      unfold World.cell? at hm
      simp only [hh] at hm
      simpa using hm
    refine ⟨m, ?_⟩
    have hg : Tryz.prog.globalNamed "internal/bytealg.MaxLen" = some 0 := by kernel_rfl
    unfold World.var?
    rw [hg, Option.bind_some, hh, hx]
theorem pre_ok {W : World} (h : laidMetH Tryz.prog Rows.fnCarpetsCutOfAllRow.laid W) (hsh : W.ShapedOpen Tryz.prog) : textPre.p W (· < W.heap.size) := by
  intro x hx
  simp only [textL, List.mem_cons, List.not_mem_nil, or_false] at hx
  rcases hx with rfl | rfl | rfl | rfl
  · exact pre_of (tab2 h) rfl
  · obtain ⟨m, hv⟩ := shaped0 hsh
    exact pre_of hv ⟨m, rfl⟩
  · obtain ⟨a, hv⟩ := sent5 h
    exact pre_of hv ⟨_, rfl, .inr ⟨_, _, rfl⟩⟩
  · obtain ⟨a, hv⟩ := sent4 h
    exact pre_of hv ⟨_, rfl, .inr ⟨_, _, rfl⟩⟩
set_option maxRecDepth 100000 in
theorem contract (H : Type) (enc : TypeId × Value → H) (W : World) (base : Nat) (args : Array Value) (ds gs : List (DataW H)) (before : List MemPlace)
    (hval : ∀ (j : Nat) t v, Tryz.f3.params[j]? = some t → args[j]? = some v → Value.okWide Tryz.prog W .any base t v)
    (hW : DataW.Whole enc Tryz.prog Tryz.f3.params.toList Rows.fnCarpetsCutOfAllSpec.vars false W args.toList ds gs before) (hL : laidMetH Tryz.prog Rows.fnCarpetsCutOfAllRow.laid W) (hsh : W.ShapedOpen Tryz.prog) :
    Calls Tryz.prog 3 args W fun e W' => ∃ v, e = .returned v ∧ Rows.fnCarpetsCutOfAllSpec.post enc Tryz.prog Tryz.f3 false true false false W args v W' := by
  have hW' := hW
  obtain ⟨p, q, hA0, hV, rfl, hfz, hnd⟩ := hW
  have hA : DataW.TrodAll enc Tryz.prog W 0 (fun _ => true) true Tryz.f3.params.toList args.toList ds p := hA0
  rw [Tryz.params3] at hA hval
  obtain ⟨v0, vs0, d0, ds0, p0, q0, hargs, rfl, rfl, h0, r0⟩ := trodAll_cons hA
  obtain ⟨v1, vs1, d1, ds1, p1, q1, rfl, rfl, rfl, h1, r1⟩ := trodAll_cons r0
  obtain ⟨v2, vs2, d2, ds2, p2, q2, rfl, rfl, rfl, h2, r2⟩ := trodAll_cons r1
  obtain ⟨v3, vs3, d3, ds3, p3, q3, rfl, rfl, rfl, h3, r3⟩ := trodAll_cons r2
  obtain ⟨v4, vs4, d4, ds4, p4, q4, rfl, rfl, rfl, h4, r4⟩ := trodAll_cons r3
  obtain ⟨v5, vs5, d5, ds5, p5, q5, rfl, rfl, rfl, h5, r5⟩ := trodAll_cons r4
  obtain ⟨v6, vs6, d6, ds6, p6, q6, rfl, rfl, rfl, h6, r6⟩ := trodAll_cons r5
  obtain ⟨v7, vs7, d7, ds7, p7, q7, rfl, rfl, rfl, h7, r7⟩ := trodAll_cons r6
  obtain ⟨v8, vs8, d8, ds8, p8, q8, rfl, rfl, rfl, h8, r8⟩ := trodAll_cons r7
  obtain ⟨v9, vs9, d9, ds9, p9, q9, rfl, rfl, rfl, h9, r9⟩ := trodAll_cons r8
  obtain ⟨v10, vs10, d10, ds10, p10, q10, rfl, rfl, rfl, h10, r10⟩ := trodAll_cons r9
  obtain ⟨v11, vs11, d11, ds11, p11, q11, rfl, rfl, rfl, h11, r11⟩ := trodAll_cons r10
  obtain ⟨rfl, rfl, rfl⟩ := trodAll_nil r11
  obtain rfl : args = #[v0, v1, v2, v3, v4, v5, v6, v7, v8, v9, v10, v11] := by cases args; simp_all
  obtain ⟨rfl, rfl⟩ := trodVars_none hV
  have hv0 := hval 0 22 v0 rfl rfl
  obtain ⟨y0, hp0, hw0⟩ := open_kd (k := kSint) tf0 hv0 h0
  have lt0 : ∀ x ∈ p0, x.block < W.heap.size := by obtain ⟨m, hm⟩ := h0; exact DataW.trod_lt m _ _ _ hm
  have hv1 := hval 1 3 v1 rfl rfl
  obtain ⟨y1, hp1, hw1⟩ := open_kd (k := kint) tf1 hv1 h1
  have lt1 : ∀ x ∈ p1, x.block < W.heap.size := by obtain ⟨m, hm⟩ := h1; exact DataW.trod_lt m _ _ _ hm
  have hv2 := hval 2 3 v2 rfl rfl
  obtain ⟨y2, hp2, hw2⟩ := open_kd (k := kint) tf2 hv2 h2
  have lt2 : ∀ x ∈ p2, x.block < W.heap.size := by obtain ⟨m, hm⟩ := h2; exact DataW.trod_lt m _ _ _ hm
  have hv3 := hval 3 22 v3 rfl rfl
  obtain ⟨y3, hp3, hw3⟩ := open_kd (k := kSint) tf3 hv3 h3
  have lt3 : ∀ x ∈ p3, x.block < W.heap.size := by obtain ⟨m, hm⟩ := h3; exact DataW.trod_lt m _ _ _ hm
  have hv4 := hval 4 3 v4 rfl rfl
  obtain ⟨y4, hp4, hw4⟩ := open_kd (k := kint) tf4 hv4 h4
  have lt4 : ∀ x ∈ p4, x.block < W.heap.size := by obtain ⟨m, hm⟩ := h4; exact DataW.trod_lt m _ _ _ hm
  have hv5 := hval 5 22 v5 rfl rfl
  obtain ⟨y5, hp5, hw5⟩ := open_kd (k := kSint) tf5 hv5 h5
  have lt5 : ∀ x ∈ p5, x.block < W.heap.size := by obtain ⟨m, hm⟩ := h5; exact DataW.trod_lt m _ _ _ hm
  have hv6 := hval 6 3 v6 rfl rfl
  obtain ⟨y6, hp6, hw6⟩ := open_kd (k := kint) tf6 hv6 h6
  have lt6 : ∀ x ∈ p6, x.block < W.heap.size := by obtain ⟨m, hm⟩ := h6; exact DataW.trod_lt m _ _ _ hm
  have hv7 := hval 7 22 v7 rfl rfl
  obtain ⟨y7, hp7, hw7⟩ := open_kd (k := kSint) tf7 hv7 h7
  have lt7 : ∀ x ∈ p7, x.block < W.heap.size := by obtain ⟨m, hm⟩ := h7; exact DataW.trod_lt m _ _ _ hm
  have hv8 := hval 8 3 v8 rfl rfl
  obtain ⟨y8, hp8, hw8⟩ := open_kd (k := kint) tf8 hv8 h8
  have lt8 : ∀ x ∈ p8, x.block < W.heap.size := by obtain ⟨m, hm⟩ := h8; exact DataW.trod_lt m _ _ _ hm
  have hv9 := hval 9 3 v9 rfl rfl
  obtain ⟨y9, hp9, hw9⟩ := open_kd (k := kint) tf9 hv9 h9
  have lt9 : ∀ x ∈ p9, x.block < W.heap.size := by obtain ⟨m, hm⟩ := h9; exact DataW.trod_lt m _ _ _ hm
  have hv10 := hval 10 9 v10 rfl rfl
  obtain ⟨y10, hp10, hw10⟩ := open_kd (k := kstring) tf10 hv10 h10
  have lt10 : ∀ x ∈ p10, x.block < W.heap.size := by obtain ⟨m, hm⟩ := h10; exact DataW.trod_lt m _ _ _ hm
  have hv11 := hval 11 22 v11 rfl rfl
  obtain ⟨y11, hp11, hw11⟩ := open_kd (k := kSint) tf11 hv11 h11
  have lt11 : ∀ x ∈ p11, x.block < W.heap.size := by obtain ⟨m, hm⟩ := h11; exact DataW.trod_lt m _ _ _ hm
  refine (law_callsO (args := [v0, v1, v2, v3, v4, v5, v6, v7, v8, v9, v10, v11]) rfl h_w_FnCarpetsCutOfAll (x := (y0, y1, y2, y3, y4, y5, y6, y7, y8, y9, y10, y11, ())) (pre_ok hL hsh) ⟨v0, _, [], [], rfl, rfl, hp0, ⟨v1, _, [], [], rfl, rfl, hp1, ⟨v2, _, [], [], rfl, rfl, hp2, ⟨v3, _, [], [], rfl, rfl, hp3, ⟨v4, _, [], [], rfl, rfl, hp4, ⟨v5, _, [], [], rfl, rfl, hp5, ⟨v6, _, [], [], rfl, rfl, hp6, ⟨v7, _, [], [], rfl, rfl, hp7, ⟨v8, _, [], [], rfl, rfl, hp8, ⟨v9, _, [], [], rfl, rfl, hp9, ⟨v10, _, [], [], rfl, rfl, hp10, ⟨v11, _, [], [], rfl, rfl, hp11, ⟨rfl, rfl⟩⟩⟩⟩⟩⟩⟩⟩⟩⟩⟩⟩⟩ (pure_FnCarpetsCutOfAll y0 hw0 y1 hw1 y2 hw2 y3 hw3 y4 hw4 y5 hw5 y6 hw6 y7 hw7 y8 hw8 y9 hw9 y10 hw10 y11 hw11)).mono fun e W' ⟨he, bel⟩ => ?_
  subst he
  exact ⟨_, rfl, _, _, _, [], _, [], hW', trodAll_mk1 (shut_bool Tryz.underlying4 _), (trodAll_cons_mk (Below.trod laidOut (by kernel_rfl) (of_decide_eq_true (by kernel_rfl)) h0 bel lt0) (trodAll_cons_mk (Below.trod laidOut (by kernel_rfl) (of_decide_eq_true (by kernel_rfl)) h1 bel lt1) (trodAll_cons_mk (Below.trod laidOut (by kernel_rfl) (of_decide_eq_true (by kernel_rfl)) h2 bel lt2) (trodAll_cons_mk (Below.trod laidOut (by kernel_rfl) (of_decide_eq_true (by kernel_rfl)) h3 bel lt3) (trodAll_cons_mk (Below.trod laidOut (by kernel_rfl) (of_decide_eq_true (by kernel_rfl)) h4 bel lt4) (trodAll_cons_mk (Below.trod laidOut (by kernel_rfl) (of_decide_eq_true (by kernel_rfl)) h5 bel lt5) (trodAll_cons_mk (Below.trod laidOut (by kernel_rfl) (of_decide_eq_true (by kernel_rfl)) h6 bel lt6) (trodAll_cons_mk (Below.trod laidOut (by kernel_rfl) (of_decide_eq_true (by kernel_rfl)) h7 bel lt7) (trodAll_cons_mk (Below.trod laidOut (by kernel_rfl) (of_decide_eq_true (by kernel_rfl)) h8 bel lt8) (trodAll_cons_mk (Below.trod laidOut (by kernel_rfl) (of_decide_eq_true (by kernel_rfl)) h9 bel lt9) (trodAll_cons_mk (Below.trod laidOut (by kernel_rfl) (of_decide_eq_true (by kernel_rfl)) h10 bel lt10) (trodAll_cons_mk (Below.trod laidOut (by kernel_rfl) (of_decide_eq_true (by kernel_rfl)) h11 bel lt11) trodAll_mk0)))))))))))), rfl, bel.frame _, fun h => by cases h⟩
noncomputable def start (os : Os) : World := World.holding Tryz.prog os ⟨#[], #[], []⟩
def put (w : World) (g : Nat) (vs : Array Value) : World := { w with heap := w.heap.modify g fun | .cells _ t fr => .cells vs t fr | o => o }
noncomputable def laidWorld (os : Os) : World := put (World.doorLaid Tryz.prog 72 os) 4 ((Lib.firstTab : List Int).map (Value.int .u8)).toArray
theorem laid_met (os : Os) : laidMet Tryz.prog Rows.fnCarpetsCutOfAllRow.laid ((laidWorld os).forCall (fun _ _ => 0) ⟨#[], #[.slice none 0 0, .int .i64 0, .int .i64 0, .slice none 0 0, .int .i64 0, .slice none 0 0, .int .i64 0, .slice none 0 0, .int .i64 0, .int .i64 0, .string ByteArray.empty, .slice none 0 0], []⟩).memory :=
  laidMet_of_run' 8 (by kernel_rfl) (by kernel_rfl)
theorem reads (os : Os) {H : Type} (enc : TypeId × Value → H) : ∃ places, DataW.whole enc Tryz.prog ((laidWorld os).forCall (fun _ _ => 0) ⟨#[], #[.slice none 0 0, .int .i64 0, .int .i64 0, .slice none 0 0, .int .i64 0, .slice none 0 0, .int .i64 0, .slice none 0 0, .int .i64 0, .int .i64 0, .string ByteArray.empty, .slice none 0 0], []⟩).memory Tryz.f3.params.toList Rows.fnCarpetsCutOfAllSpec.vars false (#[.slice none 0 0, .int .i64 0, .int .i64 0, .slice none 0 0, .int .i64 0, .slice none 0 0, .int .i64 0, .slice none 0 0, .int .i64 0, .int .i64 0, .string ByteArray.empty, .slice none 0 0] : Array Value).toList 8 = some ([.nil, .lit (.int .i64 0), .lit (.int .i64 0), .nil, .lit (.int .i64 0), .nil, .lit (.int .i64 0), .nil, .lit (.int .i64 0), .lit (.int .i64 0), .lit (.string []), .nil], [], places) :=
  ⟨[], by kernel_rfl⟩
set_option maxRecDepth 100000 in
theorem lifted (os : Os) (started : os.Started) (H : Type) (enc : TypeId × Value → H) (F : Stop.Interp) :
    ReturnsInHanded {} Tryz.checked os 3 .any ((OpenSpec.ofChange Rows.fnCarpetsCutOfAllSpec).preRow enc Tryz.prog Tryz.f3 Rows.fnCarpetsCutOfAllRow.domain false Rows.fnCarpetsCutOfAllRow.laid) (((OpenSpec.ofChange Rows.fnCarpetsCutOfAllSpec).at F).post enc Tryz.prog Tryz.f3 false true false false) := by
  obtain ⟨places, hx⟩ := reads os enc
  refine returnsInHanded_of_row (C := Tryz.checked) (s := OpenSpec.ofChange Rows.fnCarpetsCutOfAllSpec) own started (by kernel_rfl) Tryz.func3
    (witness_row_atRef (enc := enc) (C := Tryz.checked) false (laidWorld os) #[.slice none 0 0, .int .i64 0, .int .i64 0, .slice none 0 0, .int .i64 0, .slice none 0 0, .int .i64 0, .slice none 0 0, .int .i64 0, .int .i64 0, .string ByteArray.empty, .slice none 0 0] rfl (by kernel_rfl) (by kernel_rfl) (by kernel_rfl)
      (OpenSpec.preRow_of_cond 8 hx (by kernel_rfl) (fun k hk => by cases hk) (by kernel_rfl) (by rw [MakeChecks.laidMetH_plain _ _ _ (by kernel_rfl)]; exact laid_met os))) ?_
  intro W base args ds gs before hval hW _ _ _ hL hsh _
  exact contract H enc W base args ds gs before hval hW hL hsh
theorem said : Rows.FnCarpetsCutOfAllSaid :=
  OpenClaim.holds_of_cond 3 Tryz.f3 rfl rfl rfl rfl rfl rfl rfl ⟨rfl, rfl, rfl, rfl, rfl⟩ rfl rfl rfl rfl rfl (by kernel_rfl) Tryz.func3 (by kernel_rfl)
    (of_decide_eq_true (by kernel_rfl)) (by unfold Func.isWrapper; first | (rw [if_pos (by decide +kernel)]; kernel_rfl) | (rw [if_neg (by decide +kernel)]; exact ⟨rfl, rfl⟩))
    (fun os started H enc _ F => by rw [OpenClaim.pre_eq_preRow]; exact lifted os started H enc F)
theorem plain (f : FuncId) (fn : Func) (hf : Tryz.pinned.checked.prog.funcNamed "loop.example/g01374/laws.FnCarpetsCutOfAll" = some f) (hfn : Tryz.pinned.checked.prog.funcs[f]? = some fn) :
    true = Tryz.pinned.checked.prog.looks [] ∧ ∀ (j : Nat) t, fn.params[j]? = some t → Tryz.pinned.checked.prog.wantsStandIn t = false := by
  obtain rfl : f = 3 := Option.some.inj ((show Tryz.prog.funcNamed "loop.example/g01374/laws.FnCarpetsCutOfAll" = some 3 by kernel_rfl).symm.trans hf) |>.symm
  obtain rfl : fn = Tryz.f3 := (Option.some.inj (Tryz.func3.symm.trans hfn)).symm
  refine ⟨by kernel_rfl, fun j t ht => ?_⟩
  rw [Tryz.params3] at ht
  have hm := Array.mem_of_getElem? ht
  simp only [List.mem_toArray, List.mem_cons, List.not_mem_nil, or_false] at hm
  rcases hm with rfl | rfl | rfl | rfl | rfl | rfl | rfl | rfl | rfl | rfl | rfl | rfl
  · exact (show Tryz.prog.wantsStandIn 22 = false by kernel_rfl)
  · exact (show Tryz.prog.wantsStandIn 3 = false by kernel_rfl)
  · exact (show Tryz.prog.wantsStandIn 3 = false by kernel_rfl)
  · exact (show Tryz.prog.wantsStandIn 22 = false by kernel_rfl)
  · exact (show Tryz.prog.wantsStandIn 3 = false by kernel_rfl)
  · exact (show Tryz.prog.wantsStandIn 22 = false by kernel_rfl)
  · exact (show Tryz.prog.wantsStandIn 3 = false by kernel_rfl)
  · exact (show Tryz.prog.wantsStandIn 22 = false by kernel_rfl)
  · exact (show Tryz.prog.wantsStandIn 3 = false by kernel_rfl)
  · exact (show Tryz.prog.wantsStandIn 3 = false by kernel_rfl)
  · exact (show Tryz.prog.wantsStandIn 9 = false by kernel_rfl)
  · exact (show Tryz.prog.wantsStandIn 22 = false by kernel_rfl)
theorem card : Rows.FnCarpetsCutOfAllCardSaid :=
  Claim7.holds_tied_plain_at .later [] _ _ _ _ said (fun _ h => by cases h) (by kernel_rfl) (fun _ h => by cases h) fnCarpetsCutOfAll_row_tie rfl ⟨rfl, rfl⟩ (by kernel_rfl) rfl plain (by kernel_rfl)
#print axioms card
end Go.Proofs.YtddiigejhjfhdaaGreatDoor.fnCarpetsCutOfAll
namespace Go.Proofs.YtddiigejhjfhdaaGreatDoor
/-- The card, under a short name. -/
theorem fnCarpetsCutOfAll_holds : Rows.FnCarpetsCutOfAllCardSaid := fnCarpetsCutOfAll.card
end Go.Proofs.YtddiigejhjfhdaaGreatDoor
