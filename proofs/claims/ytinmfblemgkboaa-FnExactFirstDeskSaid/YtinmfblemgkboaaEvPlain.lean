import Derived.Test.YtinmfblemgkboaaEvLaw
import Derived.Test.YtinmfblemgkboaaEvDraw
/- Small laws for the plain functions. -/
set_option linter.unusedVariables false
namespace Go.Ev
open Go

theorem wrap64 {n : Int} (h1 : -9223372036854775808 ≤ n) (h2 : n ≤ 9223372036854775807) : IntKind.wrap .i64 n = n := by
  unfold IntKind.wrap
  simp [IntKind.signed, IntKind.bits]
  omega
theorem rdk_get {k : Kd} {xs : List k.Ty} {i : Nat} (h : i < xs.length) : rdk k xs (i : Int) = xs[i] := by
  unfold rdk
  rw [Int.toNat_natCast, List.getD_eq_getElem?_getD, List.getElem?_eq_getElem h]
  rfl
theorem maxLen_eq : maxLen = 9223372036854775807 := rfl
theorem G_succ (c : FnCx) (n : Nat) : c.G (n + 1) = c.round (c.G n) := rfl
end Go.Ev
