/- A contract of the library laid at this program. No condition. -/
import Derived.Test.YtadcmhdjoglagaaDoorProg
import Derived.Test.YtadcmhdjoglagaaDoorEvText
import Derived.Shelf.LaysC
import Derived.KernelRfl
set_option maxRecDepth 100000
namespace Go.Proofs.YtadcmhdjoglagaaDoor.V
open Go Go.Ev Go.Proofs
def lcut_ren : Go.Shelf.Ren := ⟨fun | 145 => 46 | 220 => 53 | 219 => 58 | 217 => 62 | 225 => 63 | 224 => 64 | 267 => 65 | 266 => 75 | 314 => 76 | n => n, fun | 9 => 9 | 4 => 4 | 59 => 64 | 3 => 3 | 5 => 5 | 46 => 74 | 146 => 91 | 51 => 90 | n => n, fun | 1 => 0 | n => n⟩
theorem lcut : Go.Proofs.LaysM.n145 Tryd.prog lcut_ren := {
  mixed := by kernel_rfl,
  f145 := Tryd.func46.trans (congrArg some (by kernel_rfl)),
  f217 := Tryd.func62.trans (congrArg some (by kernel_rfl)),
  f219 := Tryd.func58.trans (congrArg some (by kernel_rfl)),
  f220 := Tryd.func53.trans (congrArg some (by kernel_rfl)),
  f224 := Tryd.func64.trans (congrArg some (by kernel_rfl)),
  f225 := Tryd.func63.trans (congrArg some (by kernel_rfl)),
  f266 := Tryd.func75.trans (congrArg some (by kernel_rfl)),
  f267 := Tryd.func65.trans (congrArg some (by kernel_rfl)),
  f314 := Tryd.func76.trans (congrArg some (by kernel_rfl)),
  t3 := Tryd.underlying3,
  a3 := Tryd.isAgg3,
  z3 := Tryd.sizeOf3,
  v3 := Tryd.zeroValue3,
  t4 := Tryd.underlying4,
  a4 := Tryd.isAgg4,
  z4 := Tryd.sizeOf4,
  v4 := Tryd.zeroValue4,
  t5 := Tryd.underlying5,
  a5 := Tryd.isAgg5,
  z5 := Tryd.sizeOf5,
  v5 := Tryd.zeroValue5,
  t9 := Tryd.underlying9,
  a9 := Tryd.isAgg9,
  z9 := Tryd.sizeOf9,
  v9 := Tryd.zeroValue9,
  t46 := Tryd.underlying74,
  a46 := Tryd.isAgg74,
  z46 := Tryd.sizeOf74,
  v46 := Tryd.zeroValue74,
  t51 := Tryd.underlying90,
  a51 := Tryd.isAgg90,
  z51 := Tryd.sizeOf90,
  v51 := Tryd.zeroValue90,
  t59 := Tryd.underlying64,
  a59 := Tryd.isAgg64,
  z59 := Tryd.sizeOf64,
  v59 := Tryd.zeroValue64,
  t146 := Tryd.underlying91,
  a146 := Tryd.isAgg91,
  z146 := Tryd.sizeOf91,
  v146 := Tryd.zeroValue91,
  g1 := by kernel_rfl,
  i3 := by kernel_rfl,
  i4 := by kernel_rfl,
  i5 := by kernel_rfl,
  i9 := by kernel_rfl,
  i46 := by kernel_rfl,
  i51 := by kernel_rfl,
  i59 := by kernel_rfl,
  i146 := by kernel_rfl,
  m1 := by kernel_rfl,
  s1_3 := fun w h => Go.Proofs.cell_of_shapedOpen_int (zero := #[.int .i64 0]) (t := 3) h (of_decide_eq_true (by kernel_rfl)) (by kernel_rfl) rfl (by kernel_rfl) (by kernel_rfl) Tryd.underlying3 }
end Go.Proofs.YtadcmhdjoglagaaDoor.V
