/- A contract of the library laid at this program. No condition. -/
import Derived.Test.YtddlajhpdbjapaaGreatDoorProg
import Derived.Test.YtddlajhpdbjapaaGreatDoorEvText
import Derived.Shelf.LaysC
import Derived.KernelRfl
set_option maxRecDepth 100000
namespace Go.Proofs.YtddlajhpdbjapaaGreatDoor.V
open Go Go.Ev Go.Proofs
def lcut_ren : Go.Shelf.Ren := ⟨fun | 145 => 95 | 220 => 118 | 219 => 124 | 217 => 131 | 225 => 132 | 224 => 133 | 267 => 134 | 266 => 145 | 314 => 146 | n => n, fun | 9 => 9 | 4 => 4 | 59 => 91 | 3 => 3 | 5 => 5 | 46 => 108 | 146 => 126 | 51 => 123 | n => n, fun | 1 => 0 | n => n⟩
theorem lcut : Go.Proofs.LaysM.n145 Tryz.prog lcut_ren := {
  mixed := by kernel_rfl,
  f145 := Tryz.func95.trans (congrArg some (by kernel_rfl)),
  f217 := Tryz.func131.trans (congrArg some (by kernel_rfl)),
  f219 := Tryz.func124.trans (congrArg some (by kernel_rfl)),
  f220 := Tryz.func118.trans (congrArg some (by kernel_rfl)),
  f224 := Tryz.func133.trans (congrArg some (by kernel_rfl)),
  f225 := Tryz.func132.trans (congrArg some (by kernel_rfl)),
  f266 := Tryz.func145.trans (congrArg some (by kernel_rfl)),
  f267 := Tryz.func134.trans (congrArg some (by kernel_rfl)),
  f314 := Tryz.func146.trans (congrArg some (by kernel_rfl)),
  t3 := Tryz.underlying3,
  a3 := Tryz.isAgg3,
  z3 := Tryz.sizeOf3,
  v3 := Tryz.zeroValue3,
  t4 := Tryz.underlying4,
  a4 := Tryz.isAgg4,
  z4 := Tryz.sizeOf4,
  v4 := Tryz.zeroValue4,
  t5 := Tryz.underlying5,
  a5 := Tryz.isAgg5,
  z5 := Tryz.sizeOf5,
  v5 := Tryz.zeroValue5,
  t9 := Tryz.underlying9,
  a9 := Tryz.isAgg9,
  z9 := Tryz.sizeOf9,
  v9 := Tryz.zeroValue9,
  t46 := Tryz.underlying108,
  a46 := Tryz.isAgg108,
  z46 := Tryz.sizeOf108,
  v46 := Tryz.zeroValue108,
  t51 := Tryz.underlying123,
  a51 := Tryz.isAgg123,
  z51 := Tryz.sizeOf123,
  v51 := Tryz.zeroValue123,
  t59 := Tryz.underlying91,
  a59 := Tryz.isAgg91,
  z59 := Tryz.sizeOf91,
  v59 := Tryz.zeroValue91,
  t146 := Tryz.underlying126,
  a146 := Tryz.isAgg126,
  z146 := Tryz.sizeOf126,
  v146 := Tryz.zeroValue126,
  g1 := by kernel_rfl,
  i3 := by kernel_rfl,
  i4 := by kernel_rfl,
  i5 := by kernel_rfl,
  i9 := by kernel_rfl,
  i46 := by kernel_rfl,
  i51 := by kernel_rfl,
  i59 := by kernel_rfl,
  i146 := by kernel_rfl,
  m1 := by kernel_rfl,
  s1_3 := fun w h => Go.Proofs.cell_of_shapedOpen_int (zero := #[.int .i64 0]) (t := 3) h (of_decide_eq_true (by kernel_rfl)) (by kernel_rfl) rfl (by kernel_rfl) (by kernel_rfl) Tryz.underlying3 }
end Go.Proofs.YtddlajhpdbjapaaGreatDoor.V
