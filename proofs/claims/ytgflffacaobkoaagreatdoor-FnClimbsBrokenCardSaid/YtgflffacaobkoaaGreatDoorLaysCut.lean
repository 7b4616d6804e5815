/- A contract of the library laid at this program. No condition. -/
import Derived.Test.YtgflffacaobkoaaGreatDoorProg
import Derived.Test.YtgflffacaobkoaaGreatDoorEvText
import Derived.Shelf.LaysC
import Derived.KernelRfl
set_option maxRecDepth 100000
namespace Go.Proofs.YtgflffacaobkoaaGreatDoor.V
open Go Go.Ev Go.Proofs
def lcut_ren : Go.Shelf.Ren := ⟨fun | 145 => 59 | 220 => 85 | 219 => 101 | 217 => 123 | 225 => 124 | 224 => 125 | 267 => 126 | 266 => 147 | 314 => 148 | n => n, fun | 9 => 9 | 4 => 4 | 59 => 67 | 3 => 3 | 5 => 5 | 46 => 92 | 146 => 143 | 51 => 116 | n => n, fun | 1 => 0 | n => n⟩
theorem lcut : Go.Proofs.LaysM.n145 Tryz.prog lcut_ren := {
  mixed := by kernel_rfl,
  f145 := Tryz.func59.trans (congrArg some (by kernel_rfl)),
  f217 := Tryz.func123.trans (congrArg some (by kernel_rfl)),
  f219 := Tryz.func101.trans (congrArg some (by kernel_rfl)),
  f220 := Tryz.func85.trans (congrArg some (by kernel_rfl)),
  f224 := Tryz.func125.trans (congrArg some (by kernel_rfl)),
  f225 := Tryz.func124.trans (congrArg some (by kernel_rfl)),
  f266 := Tryz.func147.trans (congrArg some (by kernel_rfl)),
  f267 := Tryz.func126.trans (congrArg some (by kernel_rfl)),
  f314 := Tryz.func148.trans (congrArg some (by kernel_rfl)),
  t3 := Tryz.underlying3,
  a3 := Tryz.isAgg3,
  z3 := Tryz.sizeOf3,
  v3 := Tryz.zeroValue3,
  t4 := Tryz.underlying4,
  a4 := Tryz.isAgg4,
  z4 := Tryz.sizeOf4,
  v4 := Tryz.zeroValue4,
  t5 := Tryz.underlying5,
  a5 := Tryz.isAgg5,
  z5 := Tryz.sizeOf5,
  v5 := Tryz.zeroValue5,
  t9 := Tryz.underlying9,
  a9 := Tryz.isAgg9,
  z9 := Tryz.sizeOf9,
  v9 := Tryz.zeroValue9,
  t46 := Tryz.underlying92,
  a46 := Tryz.isAgg92,
  z46 := Tryz.sizeOf92,
  v46 := Tryz.zeroValue92,
  t51 := Tryz.underlying116,
  a51 := Tryz.isAgg116,
  z51 := Tryz.sizeOf116,
  v51 := Tryz.zeroValue116,
  t59 := Tryz.underlying67,
  a59 := Tryz.isAgg67,
  z59 := Tryz.sizeOf67,
  v59 := Tryz.zeroValue67,
  t146 := Tryz.underlying143,
  a146 := Tryz.isAgg143,
  z146 := Tryz.sizeOf143,
  v146 := Tryz.zeroValue143,
  g1 := by kernel_rfl,
  i3 := by kernel_rfl,
  i4 := by kernel_rfl,
  i5 := by kernel_rfl,
  i9 := by kernel_rfl,
  i46 := by kernel_rfl,
  i51 := by kernel_rfl,
  i59 := by kernel_rfl,
  i146 := by kernel_rfl,
  m1 := by kernel_rfl,
  s1_3 := fun w h => Go.Proofs.cell_of_shapedOpen_int (zero := #[.int .i64 0]) (t := 3) h (of_decide_eq_true (by kernel_rfl)) (by kernel_rfl) rfl (by kernel_rfl) (by kernel_rfl) Tryz.underlying3 }
end Go.Proofs.YtgflffacaobkoaaGreatDoor.V
