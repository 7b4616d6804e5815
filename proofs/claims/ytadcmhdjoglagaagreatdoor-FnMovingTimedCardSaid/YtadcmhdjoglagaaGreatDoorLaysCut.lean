/- A contract of the library laid at this program. No condition. -/
import Derived.Test.YtadcmhdjoglagaaGreatDoorProg
import Derived.Test.YtadcmhdjoglagaaGreatDoorEvText
import Derived.Shelf.LaysC
import Derived.KernelRfl
set_option maxRecDepth 100000
namespace Go.Proofs.YtadcmhdjoglagaaGreatDoor.V
open Go Go.Ev Go.Proofs
def lcut_ren : Go.Shelf.Ren := ⟨fun | 145 => 50 | 220 => 65 | 219 => 70 | 217 => 77 | 225 => 78 | 224 => 79 | 267 => 80 | 266 => 91 | 314 => 92 | n => n, fun | 9 => 9 | 4 => 4 | 59 => 59 | 3 => 3 | 5 => 5 | 46 => 78 | 146 => 96 | 51 => 93 | n => n, fun | 1 => 0 | n => n⟩
theorem lcut : Go.Proofs.LaysM.n145 Tryz.prog lcut_ren := {
  mixed := by kernel_rfl,
  f145 := Tryz.func50.trans (congrArg some (by kernel_rfl)),
  f217 := Tryz.func77.trans (congrArg some (by kernel_rfl)),
  f219 := Tryz.func70.trans (congrArg some (by kernel_rfl)),
  f220 := Tryz.func65.trans (congrArg some (by kernel_rfl)),
  f224 := Tryz.func79.trans (congrArg some (by kernel_rfl)),
  f225 := Tryz.func78.trans (congrArg some (by kernel_rfl)),
  f266 := Tryz.func91.trans (congrArg some (by kernel_rfl)),
  f267 := Tryz.func80.trans (congrArg some (by kernel_rfl)),
  f314 := Tryz.func92.trans (congrArg some (by kernel_rfl)),
  t3 := Tryz.underlying3,
  a3 := Tryz.isAgg3,
  z3 := Tryz.sizeOf3,
  v3 := Tryz.zeroValue3,
  t4 := Tryz.underlying4,
  a4 := Tryz.isAgg4,
  z4 := Tryz.sizeOf4,
  v4 := Tryz.zeroValue4,
  t5 := Tryz.underlying5,
  a5 := Tryz.isAgg5,
  z5 := Tryz.sizeOf5,
  v5 := Tryz.zeroValue5,
  t9 := Tryz.underlying9,
  a9 := Tryz.isAgg9,
  z9 := Tryz.sizeOf9,
  v9 := Tryz.zeroValue9,
  t46 := Tryz.underlying78,
  a46 := Tryz.isAgg78,
  z46 := Tryz.sizeOf78,
  v46 := Tryz.zeroValue78,
  t51 := Tryz.underlying93,
  a51 := Tryz.isAgg93,
  z51 := Tryz.sizeOf93,
  v51 := Tryz.zeroValue93,
  t59 := Tryz.underlying59,
  a59 := Tryz.isAgg59,
  z59 := Tryz.sizeOf59,
  v59 := Tryz.zeroValue59,
  t146 := Tryz.underlying96,
  a146 := Tryz.isAgg96,
  z146 := Tryz.sizeOf96,
  v146 := Tryz.zeroValue96,
  g1 := by kernel_rfl,
  i3 := by kernel_rfl,
  i4 := by kernel_rfl,
  i5 := by kernel_rfl,
  i9 := by kernel_rfl,
  i46 := by kernel_rfl,
  i51 := by kernel_rfl,
  i59 := by kernel_rfl,
  i146 := by kernel_rfl,
  m1 := by kernel_rfl,
  s1_3 := fun w h => Go.Proofs.cell_of_shapedOpen_int (zero := #[.int .i64 0]) (t := 3) h (of_decide_eq_true (by kernel_rfl)) (by kernel_rfl) rfl (by kernel_rfl) (by kernel_rfl) Tryz.underlying3 }
end Go.Proofs.YtadcmhdjoglagaaGreatDoor.V
