/- The plain law of FnSpiralsMeet: the plain function answers true. No condition. -/
import Derived.Test.YtddlajhpdbjapaaGreatDoorP2h
set_option linter.unusedVariables false
set_option linter.unusedSimpArgs false
set_option maxRecDepth 100000
namespace Go.Proofs.YtddlajhpdbjapaaGreatDoor.V
open Go Go.Ev Go.Proofs
theorem rises_seg {p : Int → Bool} {n : Nat} {k : Int} (hn : n ≤ 1000) : w_wRises (seg p k n) = some true := by
  have := seg_len (p := p) (n := n) (k := k)
  refine wRises_ok (by omega) fun i hi => ?_
  exact List.pairwise_iff_getElem.1 (seg_pair (p := p) (n := n) (k := k)) i (i + 1) (by omega) hi (by omega)
theorem ang_same {a b A B : Int} (hA : 0 < A) (hB : 0 < B) (ha : 0 ≤ a) (hb : 0 ≤ b) (h : a * B = b * A) : frN a A = frN b B ∧ frD a A = frD b B := by
  obtain ⟨e1, e2⟩ := fr_mul (k := B) (n := a) (d := A) hB ha hA
  obtain ⟨e3, e4⟩ := fr_mul (k := A) (n := b) (d := B) hA hb hB
  have h1 : B * a = A * b := by rw [Int.mul_comm B, h, Int.mul_comm]
  have h2 : B * A = A * B := Int.mul_comm _ _
  rw [h1, h2] at e1 e2
  exact ⟨e1.symm.trans e3, e2.symm.trans e4⟩
theorem fr_dvd {n d : Int} (hn : 0 ≤ n) (hd : 0 < d) : d % frD n d = 0 := by
  obtain ⟨m, rfl⟩ : ∃ m : Nat, n = m := ⟨n.toNat, by omega⟩
  obtain ⟨e, rfl⟩ : ∃ e : Nat, d = e := ⟨d.toNat, by omega⟩
  unfold frD
  simp only [Int.toNat_natCast]
  have h := Nat.div_mul_cancel (Nat.gcd_dvd_right m e)
  apply Int.emod_eq_zero_of_dvd
  exact Int.natCast_dvd_natCast.2 ⟨Nat.gcd m e, h.symm⟩
theorem dkN_ok (S R r lamp s : Int) : (dkN S R r lamp s).2 = dkC S R r lamp s := by unfold dkN; cases dkC S R r lamp s <;> rfl
theorem lwN_ok (S R r a b : Int) : (lwN S R r a b).2 = lwC S R r a b := by unfold lwN; cases lwC S R r a b <;> rfl
theorem spN_ok (S R r : Int) : (spN S R r).2 = s_spGood S R r := by unfold spN; cases s_spGood S R r <;> rfl
theorem dkN_len (S R r lamp s : Int) : (dkN S R r lamp s).1.length ≤ 400 := by
  unfold dkN
  cases h : dkC S R r lamp s
  · simp
  · unfold dkC at h
    rw [Bool.and_eq_true] at h
    have g := good_iff.1 h.1
    have := g.s1; have := g.s2
    have := seg_len (p := dkB S lamp s) (n := S.toNat) (k := 1)
    show (seg _ _ _).length ≤ 400
    omega
theorem lwN_len (S R r a b : Int) : (lwN S R r a b).1.length ≤ 400 := by
  unfold lwN
  cases h : lwC S R r a b
  · simp
  · unfold lwC at h
    rw [Bool.and_eq_true] at h
    have g := good_iff.1 h.1
    have := g.s1; have := g.s2
    have := seg_len (p := lwB a b) (n := S.toNat) (k := 1)
    show (seg _ _ _).length ≤ 400
    omega
theorem twN_len (S R r tS tR tr : Int) : (twN S R r tS tR tr).1.length ≤ 400 := by
  unfold twN
  cases h : s_spGood S R r && s_spGood tS tR tr
  · simp
  · rw [Bool.and_eq_true] at h
    have g := good_iff.1 h.1
    have := g.s1; have := g.s2
    have := seg_len (p := twB R r tS tR tr) (n := S.toNat) (k := 1)
    show (seg _ _ _).length ≤ 400
    omega
section
variable {q : Int × Int × Int} {t : ByteArray} {f : Bool} (h : f = true → s_spGood q.1 q.2.1 q.2.2 = true ∧ T3 64 42 q.1 q.2.1 q.2.2 = bL t)
include h
theorem sm10 : w_FnSpiralsMeet_L10 q.1 q.2.1 q.2.2 t f = some true := by
  rw [w_FnSpiralsMeet_u10, w_FnSpiralsMeet_t10]
  cases hf : f
  · rfl
  · obtain ⟨h1, h2⟩ := h hf
    rw [(SpiralText_two _ _ _).1]
    unfold spN
    rw [h1]
    simp only [cond_true, Option.bind_some]
    rw [ByteArray.toList_eq, ByteArray.toList_eq]
    have e : ({ data := (T3 64 42 q.1 q.2.1 q.2.2).toArray } : ByteArray).data.toList = t.data.toList := by rw [h2]
    rw [e, beq_self_eq_true]
theorem sm9 (S R r : Int) : w_FnSpiralsMeet_L9 S R r q.1 q.2.1 q.2.2 (spN S R r).1 (spN S R r).2 t f = some true := by
  rw [w_FnSpiralsMeet_u9, w_FnSpiralsMeet_t9, sm10 h]
  unfold spN
  cases hg : s_spGood S R r
  · rfl
  · have g := good_iff.1 hg
    have hl := (spT_len g).2.2.2
    have hz : (⟨(T3 64 42 S R r).toArray⟩ : ByteArray).size ≤ 2000000 := by rw [bsz]; omega
    obtain ⟨p, ff, e1, -, -, e2⟩ := ParseSpiral_full hz
    obtain ⟨rfl, rfl⟩ := e2 S R r hg (bL_mk _).symm
    simp only [cond_true]
    rw [e1]
    simp
theorem sm7 (S R r k : Int) : w_FnSpiralsMeet_L7 S R r (csN S R r k).1.1 (csN S R r k).1.2.1 (csN S R r k).1.2.2 (csN S R r k).2.1.1 (csN S R r k).2.1.2.1 (csN S R r k).2.1.2.2 q.1 q.2.1 q.2.2 k (csN S R r k).2.2 (spN S R r).1 (spN S R r).2 t f = some true := by
  rw [w_FnSpiralsMeet_u7, w_FnSpiralsMeet_t7, sm9 h]
  unfold csN
  cases hc : s_spStep S R r k && !(k == S)
  · rfl
  · rw [Bool.and_eq_true] at hc
    obtain ⟨g, h1, h2⟩ := step_iff.1 hc.1
    have := g.s2
    simp only [cond_true]
    rw [wrapI (n := k + (S - k)) (by omega) (by omega), show k + (S - k) = S by omega]
    simp only [bne_self_eq_false, cond_false]
theorem sm13 {W A a X B b : Int} (gw : GoodS W A a) (gx : GoodS X B b) (S R r k : Int) :
    w_FnSpiralsMeet_L13 W A a X B b (seg (twB A a X B b) 1 W.toNat) S R r (csN S R r k).1.1 (csN S R r k).1.2.1 (csN S R r k).1.2.2 (csN S R r k).2.1.1 (csN S R r k).2.1.2.1 (csN S R r k).2.1.2.2 q.1 q.2.1 q.2.2 k (csN S R r k).2.2 (spN S R r).1 (spN S R r).2 t f
      ((seg (twB A a X B b) 1 W.toNat).length : Int) 0 = some true := by
  have w1 := gw.s1; have w2 := gw.s2; have a1 := gw.h1; have a2 := gw.h2; have A1 := gw.r1; have A2 := gw.r2
  have x1 := gx.s1; have x2 := gx.s2; have b1 := gx.h1; have b2 := gx.h2; have B1 := gx.r1; have B2 := gx.r2
  have hl := seg_len (p := twB A a X B b) (n := W.toNat) (k := 1)
  have hp := seg_pair (p := twB A a X B b) (n := W.toNat) (k := 1)
  have hmem : ∀ k, k ∈ seg (twB A a X B b) 1 W.toNat → (1 ≤ k ∧ k ≤ W) ∧ ∃ j, TwJ A a X B b k j := fun k hk => by
    obtain ⟨⟨h1, h2⟩, h3⟩ := seg_mem.1 hk
    exact ⟨⟨h1, by omega⟩, twB_iff.1 h3⟩
  have hlen : (seg (twB B b W A a) 1 X.toNat).length = (seg (twB A a X B b) 1 W.toNat).length := by
    apply Nat.le_antisymm
    · refine tw_card (sS := X) (sR := B) (sr := b) (tS := W) (tR := A) (tr := a) a1 seg_pair seg_pair b1 (fun k hk => ?_) (fun j hj hx => ?_)
      · obtain ⟨⟨h1, h2⟩, h3⟩ := seg_mem.1 hk
        obtain ⟨j, hj⟩ := twB_iff.1 h3
        exact ⟨j, hj, h1, by omega⟩
      · exact seg_mem.2 ⟨⟨hj.1, by omega⟩, twB_iff.2 hx⟩
    · refine tw_card (sS := W) (sR := A) (sr := a) (tS := X) (tR := B) (tr := b) b1 seg_pair seg_pair a1 (fun k hk => ?_) (fun j hj hx => ?_)
      · obtain ⟨h1, j, hj⟩ := hmem k hk
        exact ⟨j, hj, h1⟩
      · exact seg_mem.2 ⟨⟨hj.1, by omega⟩, twB_iff.2 hx⟩
  have ht : twN X B b W A a = (seg (twB B b W A a) 1 X.toNat, true) := by unfold twN; rw [good_iff.2 gw, good_iff.2 gx]; rfl
  generalize hM : seg (twB A a X B b) 1 W.toNat = M at *
  refine drop_ind M (fun i _ => w_FnSpiralsMeet_L13 W A a X B b M S R r (csN S R r k).1.1 (csN S R r k).1.2.1 (csN S R r k).1.2.2 (csN S R r k).2.1.1 (csN S R r k).2.1.2.1 (csN S R r k).2.1.2.2 q.1 q.2.1 q.2.2 k (csN S R r k).2.2 (spN S R r).1 (spN S R r).2 t f (M.length : Int) (i : Int) = some true) ?_ (fun i hi ih => ?_)
  · have : ¬ ((M.length : Int) < M.length) := by omega
    rw [w_FnSpiralsMeet_u13, w_FnSpiralsMeet_t13, decide_eq_false this, cond_false, Twin_i, ht]
    simp only [Option.bind_some, Bool.not_true, cond_false]
    rw [hlen, bne_self_eq_false, cond_false]
    exact sm7 h S R r k
  · obtain ⟨⟨k1, k2⟩, j, hj⟩ := hmem _ (List.getElem_mem hi)
    have hw : IntKind.wrap .i64 ((i : Int) + 1) = ((i + 1 : Nat) : Int) := by rw [wrapI (by omega) (by omega)]; omega
    have body : w_FnSpiralsMeet_L8 W A a X B b M S R r (csN S R r k).1.1 (csN S R r k).1.2.1 (csN S R r k).1.2.2 (csN S R r k).2.1.1 (csN S R r k).2.1.2.1 (csN S R r k).2.1.2.2 q.1 q.2.1 q.2.2 k (csN S R r k).2.2 (spN S R r).1 (spN S R r).2 t f M[i] (M.length : Int) (i : Int) = some true := by
      obtain ⟨u1, u2⟩ := TwJ_uniq b1 hj
      have s1 : s_spStep W A a M[i] = true := step_iff.2 ⟨gw, k1, k2⟩
      have s2 : s_spStep X B b j = true := step_iff.2 ⟨gx, hj.1.1, hj.1.2⟩
      have B3 := mulBd (a := M[i]) (b := a) (A := 400) (B := 300) ⟨by omega, by omega⟩ ⟨by omega, by omega⟩
      have m1 := Int.emod_nonneg (M[i] - 1) (show A ≠ 0 by omega)
      have m3 := Int.emod_nonneg (j - 1) (show B ≠ 0 by omega)
      have hj1 := hj.1
      obtain ⟨f1, f2⟩ := ang_same (A := A) (B := B) (by omega) (by omega) m1 m3 hj.2.2
      rw [w_FnSpiralsMeet_u8, w_FnSpiralsMeet_t8, Height_i]
      unfold htN
      rw [s1]
      simp only [cond_true, Option.bind_some, Bool.not_true, cond_false]
      rw [show (b == 0) = false from beq_eq_false_iff_ne.2 (by omega), Int.tmod_eq_emod_of_nonneg B3.1, u1, AngleOf_i, Int.tdiv_eq_ediv_of_nonneg B3.1, u2, wrapI (n := j) (by omega) (by omega), AngleOf_i]
      unfold agN
      rw [s1, s2]
      simp only [cond_true, Option.bind_some, Bool.not_true, cond_false, bne_self_eq_false]
      rw [f1, f2, bne_self_eq_false, bne_self_eq_false, hw]
      simp only [cond_false]
      exact ih
    rw [w_FnSpiralsMeet_u13, w_FnSpiralsMeet_t13, decide_eq_true (show (i : Int) < M.length by omega), decide_eq_true (Int.natCast_nonneg i), rdk_get (k := kint) hi, body]
    simp only [cond_true]
    by_cases c : 0 < i
    · have hv : IntKind.wrap .i64 ((i : Int) - 1) = ((i - 1 : Nat) : Int) := by rw [wrapI (by omega) (by omega)]; omega
      have hi1 : i - 1 < M.length := by omega
      have hlt := List.pairwise_iff_getElem.1 hp (i - 1) i hi1 hi (by omega)
      rw [decide_eq_true (show (i : Int) > 0 by omega), hv, decide_eq_true (Int.natCast_nonneg (i - 1)), decide_eq_true (show ((i - 1 : Nat) : Int) < M.length by omega), rdk_get (k := kint) hi1, decide_eq_false (show ¬ M[i - 1] ≥ M[i] by omega)]
      rfl
    · rw [decide_eq_false (show ¬ (i : Int) > 0 by omega)]
      rfl
theorem sm6 (W A a X B b : Int) (S R r k : Int) :
    w_FnSpiralsMeet_L6 W A a X B b (twN W A a X B b).1 S R r (csN S R r k).1.1 (csN S R r k).1.2.1 (csN S R r k).1.2.2 (csN S R r k).2.1.1 (csN S R r k).2.1.2.1 (csN S R r k).2.1.2.2 q.1 q.2.1 q.2.2 (twN W A a X B b).2 k (csN S R r k).2.2 (spN S R r).1 (spN S R r).2 t f = some true := by
  rw [w_FnSpiralsMeet_u6, w_FnSpiralsMeet_t6, sm7 h]
  unfold twN
  cases hc : s_spGood W A a && s_spGood X B b
  · rfl
  · rw [Bool.and_eq_true] at hc
    exact sm13 h (good_iff.1 hc.1) (good_iff.1 hc.2) S R r k
theorem sm5 (V C c e : Int) (W A a X B b : Int) (S R r k : Int) :
    w_FnSpiralsMeet_L5 V C c W A a X B b (twN W A a X B b).1 S R r (csN S R r k).1.1 (csN S R r k).1.2.1 (csN S R r k).1.2.2 (csN S R r k).2.1.1 (csN S R r k).2.1.2.1 (csN S R r k).2.1.2.2 q.1 q.2.1 q.2.2 e (caN V C c e).1 (caN V C c e).2 (twN W A a X B b).2 k (csN S R r k).2.2 (spN S R r).1 (spN S R r).2 t f = some true := by
  rw [w_FnSpiralsMeet_u5, w_FnSpiralsMeet_t5, sm6 h]
  unfold caN
  cases hc : s_spGood V C c && s_l1In e 1 400
  · rfl
  · rw [Bool.and_eq_true] at hc
    have g := good_iff.1 hc.1
    have he := l1In_iff.1 hc.2
    have := g.r1; have := g.r2
    have F := fr_is (n := e) (d := C) (by omega) (by omega)
    have D := fr_dvd (n := e) (d := C) (by omega) (by omega)
    have y1 := F.y1; have yd := F.yd; have cr := F.cr
    have BB := mulBd (a := e) (b := frD e C) (A := 400) (B := 60) ⟨by omega, by omega⟩ ⟨by omega, by omega⟩
    simp only [cond_true]
    rw [decide_eq_false (show ¬ frD e C < 1 by omega), show (frD e C == 0) = false from beq_eq_false_iff_ne.2 (by omega), Int.tmod_eq_emod_of_nonneg (by omega), D, show (C == 0) = false from beq_eq_false_iff_ne.2 (by omega), wrapI (n := e * frD e C) (by omega) (by omega), Int.tmod_eq_emod_of_nonneg BB.1, ← cr, Int.mul_emod_left]
    rfl
theorem sm12 {U D d m n : Int} (hc : lwC U D d m n = true) (V C c e : Int) (W A a X B b : Int) (S R r k : Int) :
    w_FnSpiralsMeet_L12 U D d V C c W A a X B b (twN W A a X B b).1 S R r (csN S R r k).1.1 (csN S R r k).1.2.1 (csN S R r k).1.2.2 (csN S R r k).2.1.1 (csN S R r k).2.1.2.1 (csN S R r k).2.1.2.2 q.1 q.2.1 q.2.2 (lwN U D d m n).1 m n e (caN V C c e).1 (caN V C c e).2 (twN W A a X B b).2 k (csN S R r k).2.2 (spN S R r).1 (spN S R r).2 t f
      ((lwN U D d m n).1.length : Int) 0 = some true := by
  have hl := lwN_len U D d m n
  have e1 : (lwN U D d m n).1 = seg (lwB m n) 1 U.toNat := by unfold lwN; rw [hc]; rfl
  unfold lwC at hc
  simp only [Bool.and_eq_true] at hc
  have g := good_iff.1 hc.1
  have hm := l1In_iff.1 hc.2.1
  have hn := l1In_iff.1 hc.2.2
  have u1 := g.s1; have u2 := g.s2
  have hmem : ∀ x, x ∈ (lwN U D d m n).1 → (1 ≤ x ∧ x ≤ U) ∧ x % m = 0 ∧ x % n = 0 := fun x hx => by
    rw [e1] at hx
    obtain ⟨⟨h1, h2⟩, h3⟩ := seg_mem.1 hx
    unfold lwB at h3
    rw [Bool.and_eq_true, beq_iff_eq, beq_iff_eq] at h3
    exact ⟨⟨h1, by omega⟩, h3⟩
  generalize (lwN U D d m n).1 = M at *
  refine drop_ind M (fun i _ => w_FnSpiralsMeet_L12 U D d V C c W A a X B b (twN W A a X B b).1 S R r (csN S R r k).1.1 (csN S R r k).1.2.1 (csN S R r k).1.2.2 (csN S R r k).2.1.1 (csN S R r k).2.1.2.1 (csN S R r k).2.1.2.2 q.1 q.2.1 q.2.2 M m n e (caN V C c e).1 (caN V C c e).2 (twN W A a X B b).2 k (csN S R r k).2.2 (spN S R r).1 (spN S R r).2 t f (M.length : Int) (i : Int) = some true) ?_ (fun i hi ih => ?_)
  · have : ¬ ((M.length : Int) < M.length) := by omega
    rw [w_FnSpiralsMeet_u12, w_FnSpiralsMeet_t12, decide_eq_false this, cond_false]
    exact sm5 h V C c e W A a X B b S R r k
  · obtain ⟨⟨k1, k2⟩, k3, k4⟩ := hmem _ (List.getElem_mem hi)
    have hw : IntKind.wrap .i64 ((i : Int) + 1) = ((i + 1 : Nat) : Int) := by rw [wrapI (by omega) (by omega)]; omega
    rw [w_FnSpiralsMeet_u12, w_FnSpiralsMeet_t12, decide_eq_true (show (i : Int) < M.length by omega), decide_eq_true (Int.natCast_nonneg i), rdk_get (k := kint) hi, decide_eq_false (show ¬ M[i] < 1 by omega), decide_eq_false (show ¬ M[i] > U by omega), show (m == 0) = false from beq_eq_false_iff_ne.2 (by omega), show (n == 0) = false from beq_eq_false_iff_ne.2 (by omega), Int.tmod_eq_emod_of_nonneg (by omega), Int.tmod_eq_emod_of_nonneg (by omega), k3, k4, hw]
    exact ih
end
section
variable {more : List Int} (hb : Bytes more)
include hb
theorem sm4 : w_FnSpiralsMeet_L4 more = some true := by
  obtain ⟨⟨⟨U, D, d⟩, m, n⟩, d1, -⟩ := drawLamps_ok hb
  obtain ⟨⟨⟨V, C, c⟩, e⟩, d2, -⟩ := drawAngles_ok hb
  obtain ⟨⟨⟨W, A, a⟩, X, B, b⟩, d3, -⟩ := drawTwins_ok hb
  obtain ⟨⟨⟨S, R, r⟩, k⟩, d4, -⟩ := drawCutS_ok hb
  obtain ⟨t, d5, ht⟩ := drawParseS_ok hb
  obtain ⟨q, f, e1, e2, h, -⟩ := ParseSpiral_full ht
  have k5 := sm5 h V C c e W A a X B b S R r k
  rw [spN_ok] at k5
  have l1 := lwN_len U D d m n
  have l2 := twN_len W A a X B b
  rw [w_FnSpiralsMeet_u4, w_FnSpiralsMeet_t4, d1]
  simp only [Option.bind_some]
  rw [Lamps_i, Lamps_s, Lamps_i, lwN_comm U D d n m, d2]
  simp only [Option.bind_some]
  rw [Angles_i, Angles_s, d3]
  simp only [Option.bind_some]
  rw [Twin_i, Twin_s, d4]
  simp only [Option.bind_some]
  rw [Cut_i, (SpiralText_two _ _ _).1, (SpiralText_two _ _ _).2, d5]
  simp only [Option.bind_some]
  rw [e1, e2]
  simp only [Option.bind_some, Cut_s, isS_eq]
  rw [wSame_self (by omega), wSame_self (by omega)]
  simp only [Option.bind_some, bne_self_eq_false, beq_self_eq_true, Bool.not_true, cond_false, Bool.and_self, k5, spN_ok]
  cases hc : (lwN U D d m n).2
  · rfl
  · have hc' := hc
    rw [lwN_ok] at hc'
    have e3 : (lwN U D d m n).1 = seg (lwB m n) 1 U.toNat := by unfold lwN; rw [hc']; rfl
    have hU : U.toNat ≤ 1000 := by
      unfold lwC at hc'
      rw [Bool.and_eq_true] at hc'
      have g := good_iff.1 hc'.1
      have := g.s1; have := g.s2
      omega
    have hr : w_wRises (lwN U D d m n).1 = some true := by rw [e3]; exact rises_seg hU
    have k12 := sm12 h hc' V C c e W A a X B b S R r k
    rw [spN_ok] at k12
    rw [hr]
    simp only [cond_true, Option.bind_some, Bool.not_true, cond_false]
    exact k12
theorem sm2 (S R r s : Int) : w_FnSpiralsMeet_L2 more S R r s (flN S R r s).1 (flN S R r s).2 = some true := by
  rw [w_FnSpiralsMeet_u2, w_FnSpiralsMeet_t2, sm4 hb]
  cases hc : s_spGood S R r && s_l1In s 0 400
  · have ef : flN S R r s = (0, false) := by unfold flN; rw [hc]; rfl
    rw [ef]; rfl
  · have ef : flN S R r s = ((S + 2 * s) / (2 * s + 1), true) := by unfold flN; rw [hc]; rfl
    rw [Bool.and_eq_true] at hc
    have g := good_iff.1 hc.1
    have hs := l1In_iff.1 hc.2
    have := g.s1; have := g.s2
    obtain ⟨f1, f2, f3, f4⟩ := few_lamps g.s1 hs.1
    rw [ef]
    simp only [cond_true]
    generalize (S + 2 * s) / (2 * s + 1) = F at *
    have B1 := mulBd (a := F) (b := 2 * s + 1) (A := 1200) (B := 801) ⟨by omega, by omega⟩ ⟨by omega, by omega⟩
    have B2 := mulBd (a := F - 1) (b := 2 * s + 1) (A := 1200) (B := 801) ⟨by omega, by omega⟩ ⟨by omega, by omega⟩
    rw [wrapI (n := 2 * s) (by omega) (by omega), wrapI (n := 2 * s + 1) (by omega) (by omega), wrapI (n := F * (2 * s + 1)) (by omega) (by omega), wrapI (n := F - 1) (by omega) (by omega), wrapI (n := (F - 1) * (2 * s + 1)) (by omega) (by omega), decide_eq_false (show ¬ F < 1 by omega), decide_eq_false (show ¬ F * (2 * s + 1) < S by omega), decide_eq_false (show ¬ (F - 1) * (2 * s + 1) ≥ S by omega)]
    rfl
theorem sm11 {S R r lamp s : Int} (hc : dkC S R r lamp s = true) : ∀ (d : Nat) (k : Int), k + d = 61 → 1 ≤ k → w_FnSpiralsMeet_L11 more S R r (dkN S R r lamp s).1 lamp s (flN S R r s).1 (flN S R r s).2 k = some true := by
  have hl := dkN_len S R r lamp s
  have e1 : (dkN S R r lamp s).1 = seg (dkB S lamp s) 1 S.toNat := by unfold dkN; rw [hc]; rfl
  have e2 : flN S R r s = ((S + 2 * s) / (2 * s + 1), true) := by
    unfold dkC at hc
    simp only [Bool.and_eq_true] at hc
    unfold flN
    rw [hc.1, hc.2.2]; rfl
  unfold dkC at hc
  simp only [Bool.and_eq_true] at hc
  have g := good_iff.1 hc.1
  have hlp := l1In_iff.1 hc.2.1
  have hs := l1In_iff.1 hc.2.2
  have s1 := g.s1; have s2 := g.s2
  have z : (lamp == 0) = false := beq_eq_false_iff_ne.2 (by omega)
  have hmem : ∀ k, 1 ≤ k → k ≤ S → decide (k ∈ (dkN S R r lamp s).1) = dkB S lamp s k := fun k h1 h2 => by
    rw [e1, Bool.eq_iff_iff, decide_eq_true_eq, seg_mem]
    exact ⟨fun h => h.2, fun h => ⟨⟨h1, by omega⟩, h⟩⟩
  have hfin : (bif ((dkN S R r lamp s).1.length : Int) == 0 then bif lamp == 0 then none else bif decide (IntKind.wrap .i64 (Int.tdiv S lamp) < (flN S R r s).1) then some false else w_FnSpiralsMeet_L2 more S R r s (flN S R r s).1 (flN S R r s).2 else w_FnSpiralsMeet_L2 more S R r s (flN S R r s).1 (flN S R r s).2) = some true := by
    rw [sm2 hb, z, Int.tdiv_eq_ediv_of_nonneg (by omega)]
    have q0 : 0 ≤ S / lamp := Int.ediv_nonneg (by omega) (by omega)
    have q1 : S / lamp ≤ S := Int.ediv_le_self _ (by omega)
    rw [wrapI (n := S / lamp) (by omega) (by omega)]
    cases hz : ((dkN S R r lamp s).1.length : Int) == 0
    · rfl
    · have h0 : (dkN S R r lamp s).1 = [] := List.eq_nil_of_length_eq_zero (by have := beq_iff_eq.1 hz; omega)
      have := lamps_enough (S := S) (lamp := lamp) (s := s) hlp.1 s1 hs.1 (fun k h1 h2 => by rw [← hmem k h1 h2, h0]; simp)
      rw [e2]
      simp only [cond_true, cond_false]
      rw [decide_eq_false (by omega)]; rfl
  intro d
  induction d with
  | zero =>
    intro k hk h1
    rw [w_FnSpiralsMeet_u11, w_FnSpiralsMeet_t11, decide_eq_false (show ¬ k ≤ 60 by omega)]
    cases decide (k ≤ S)
    · exact hfin
    · exact hfin
  | succ d ih =>
    intro k hk h1
    rw [w_FnSpiralsMeet_u11, w_FnSpiralsMeet_t11]
    by_cases c : k ≤ S
    · have hi := ih (k + 1) (by omega) (by omega)
      have em := Int.emod_add_mul_ediv k lamp
      have r0 := Int.emod_nonneg k (show lamp ≠ 0 by omega)
      have r1 := Int.emod_lt_of_pos k (show 0 < lamp by omega)
      have q0 := Int.ediv_nonneg (show 0 ≤ k by omega) (show 0 ≤ lamp by omega)
      have q1 : k / lamp ≤ k := Int.ediv_le_self _ (by omega)
      have lit := lit_iff (S := S) (lamp := lamp) (s := s) (k := k) hlp.1 h1 c
      rw [Int.mul_comm lamp] at em
      have m0 : 0 ≤ k / lamp * lamp := Int.mul_nonneg q0 (by omega)
      rw [decide_eq_true c, decide_eq_true (show k ≤ 60 by omega)]
      simp only [cond_true]
      rw [w_FnSpiralsMeet_u3, w_FnSpiralsMeet_t3, z, Int.tdiv_eq_ediv_of_nonneg (by omega), wrapI (n := k / lamp) (by omega) (by omega), wrapI (n := k / lamp * lamp) (by omega) (by omega), wrapI (n := k - k / lamp * lamp) (by omega) (by omega), wrapI (n := k / lamp * lamp + lamp) (by omega) (by omega), wrapI (n := k / lamp * lamp + lamp - k) (by omega) (by omega), wrapI (n := k + 1) (by omega) (by omega), wHas_eq (by omega), hmem k h1 c, hi]
      generalize k / lamp * lamp = bb at *
      have hd : dkB S lamp s k = !((decide (bb > 0) && decide (k - bb ≤ s)) || (decide (bb + lamp ≤ S) && decide (bb + lamp - k ≤ s))) := by
        rw [Bool.eq_iff_iff, lit]
        by_cases p1 : bb > 0 <;> by_cases p2 : k - bb ≤ s <;> by_cases p3 : bb + lamp ≤ S <;> by_cases p4 : bb + lamp - k ≤ s <;> simp [p1, p2, p3, p4]
      rw [hd]
      cases decide (bb > 0) <;> cases decide (k - bb ≤ s) <;> cases decide (bb + lamp ≤ S) <;> cases decide (bb + lamp - k ≤ s) <;> rfl
    · rw [decide_eq_false c]
      exact hfin
end
theorem pure_FnSpiralsMeet (code : List Int) (w0 : Wf kSuint8 code) (more : List Int) (w1 : Wf kSuint8 more) : F_w_FnSpiralsMeet (code, more, ()) = some true := by
  show w_FnSpiralsMeet code more = some true
  unfold w_FnSpiralsMeet w_FnSpiralsMeet_t0
  cases w_big code more
  · have hb := bytes_wf w1
    obtain ⟨⟨⟨S, R, r⟩, lamp, s⟩, d0, -⟩ := drawDark_ok (bytes_wf w0)
    have hl := dkN_len S R r lamp s
    rw [d0, cond_false]
    simp only [Option.bind_some]
    rw [Dark_i, Dark_s, (Fewest_two _ _ _ _).1, (Fewest_two _ _ _ _).2]
    simp only [Option.bind_some]
    rw [wSame_self (by omega)]
    simp only [Option.bind_some, bne_self_eq_false, beq_self_eq_true, Bool.not_true, cond_false]
    have g1 : w_FnSpiralsMeet_L1 more S R r (dkN S R r lamp s).1 lamp s (dkN S R r lamp s).2 (flN S R r s).1 (flN S R r s).2 = some true := by
      rw [w_FnSpiralsMeet_u1, w_FnSpiralsMeet_t1, sm2 hb]
      cases hc : (dkN S R r lamp s).2
      · rfl
      · rw [dkN_ok] at hc
        have e1 : (dkN S R r lamp s).1 = seg (dkB S lamp s) 1 S.toNat := by unfold dkN; rw [hc]; rfl
        have hU : S.toNat ≤ 1000 := by
          have hc' := hc
          unfold dkC at hc'
          rw [Bool.and_eq_true] at hc'
          have g := good_iff.1 hc'.1
          have := g.s1; have := g.s2
          omega
        have hr : w_wRises (dkN S R r lamp s).1 = some true := by rw [e1]; exact rises_seg hU
        rw [hr]
        simp only [cond_true, Option.bind_some, Bool.not_true, cond_false]
        exact sm11 hb hc 60 1 (by omega) (by omega)
    rw [g1]
    have g2 : (dkN S R r lamp s).2 = true → (flN S R r s).2 = true := fun h => by
      rw [dkN_ok] at h
      unfold dkC at h
      simp only [Bool.and_eq_true] at h
      unfold flN
      rw [h.1, h.2.2]; rfl
    cases hc : (dkN S R r lamp s).2
    · rfl
    · rw [g2 hc]; rfl
  · rfl
end Go.Proofs.YtddlajhpdbjapaaGreatDoor.V
