/- A contract of the library laid at this program. No condition. -/
import Derived.Test.YtmiimfpdlkmjhaaGreatDoorProg
import Derived.Test.YtmiimfpdlkmjhaaGreatDoorEvText
import Derived.Shelf.LaysC
import Derived.KernelRfl
set_option maxRecDepth 100000
namespace Go.Proofs.YtmiimfpdlkmjhaaGreatDoor.V
open Go Go.Ev Go.Proofs
def lcut_ren : Go.Shelf.Ren := ⟨fun | 145 => 52 | 220 => 67 | 219 => 77 | 217 => 91 | 225 => 92 | 224 => 93 | 267 => 94 | 266 => 104 | 314 => 105 | n => n, fun | 9 => 9 | 4 => 4 | 59 => 63 | 3 => 3 | 5 => 5 | 46 => 101 | 146 => 113 | 51 => 104 | n => n, fun | 1 => 0 | n => n⟩
theorem lcut : Go.Proofs.LaysM.n145 Tryz.prog lcut_ren := {
  mixed := by kernel_rfl,
  f145 := Tryz.func52.trans (congrArg some (by kernel_rfl)),
  f217 := Tryz.func91.trans (congrArg some (by kernel_rfl)),
  f219 := Tryz.func77.trans (congrArg some (by kernel_rfl)),
  f220 := Tryz.func67.trans (congrArg some (by kernel_rfl)),
  f224 := Tryz.func93.trans (congrArg some (by kernel_rfl)),
  f225 := Tryz.func92.trans (congrArg some (by kernel_rfl)),
  f266 := Tryz.func104.trans (congrArg some (by kernel_rfl)),
  f267 := Tryz.func94.trans (congrArg some (by kernel_rfl)),
  f314 := Tryz.func105.trans (congrArg some (by kernel_rfl)),
  t3 := Tryz.underlying3,
  a3 := Tryz.isAgg3,
  z3 := Tryz.sizeOf3,
  v3 := Tryz.zeroValue3,
  t4 := Tryz.underlying4,
  a4 := Tryz.isAgg4,
  z4 := Tryz.sizeOf4,
  v4 := Tryz.zeroValue4,
  t5 := Tryz.underlying5,
  a5 := Tryz.isAgg5,
  z5 := Tryz.sizeOf5,
  v5 := Tryz.zeroValue5,
  t9 := Tryz.underlying9,
  a9 := Tryz.isAgg9,
  z9 := Tryz.sizeOf9,
  v9 := Tryz.zeroValue9,
  t46 := Tryz.underlying101,
  a46 := Tryz.isAgg101,
  z46 := Tryz.sizeOf101,
  v46 := Tryz.zeroValue101,
  t51 := Tryz.underlying104,
  a51 := Tryz.isAgg104,
  z51 := Tryz.sizeOf104,
  v51 := Tryz.zeroValue104,
  t59 := Tryz.underlying63,
  a59 := Tryz.isAgg63,
  z59 := Tryz.sizeOf63,
  v59 := Tryz.zeroValue63,
  t146 := Tryz.underlying113,
  a146 := Tryz.isAgg113,
  z146 := Tryz.sizeOf113,
  v146 := Tryz.zeroValue113,
  g1 := by kernel_rfl,
  i3 := by kernel_rfl,
  i4 := by kernel_rfl,
  i5 := by kernel_rfl,
  i9 := by kernel_rfl,
  i46 := by kernel_rfl,
  i51 := by kernel_rfl,
  i59 := by kernel_rfl,
  i146 := by kernel_rfl,
  m1 := by kernel_rfl,
  s1_3 := fun w h => Go.Proofs.cell_of_shapedOpen_int (zero := #[.int .i64 0]) (t := 3) h (of_decide_eq_true (by kernel_rfl)) (by kernel_rfl) rfl (by kernel_rfl) (by kernel_rfl) Tryz.underlying3 }
end Go.Proofs.YtmiimfpdlkmjhaaGreatDoor.V
