/- A contract of the library laid at this program. No condition. -/
import Derived.Test.YthenlapjhlljnaaProg
import Derived.Test.YthenlapjhlljnaaEvStr
import Derived.Shelf.Strings.Search3
import Derived.KernelRfl
set_option maxRecDepth 100000
namespace Go.Proofs.Ythenlapjhlljnaa.V
open Go Go.Ev Go.Proofs
def lidx_ren : Go.Shelf.Ren := ⟨fun | 143 => 233 | 219 => 276 | 217 => 295 | 225 => 296 | 224 => 297 | 267 => 298 | 266 => 314 | 314 => 315 | n => n, fun | 9 => 9 | 3 => 3 | 4 => 4 | 5 => 5 | 46 => 181 | 146 => 196 | 51 => 194 | n => n, fun | 1 => 0 | n => n⟩
theorem lidx : Go.Proofs.Lays.n143 Try.prog lidx_ren := {
  mixed := by kernel_rfl,
  f143 := Try.func233.trans (congrArg some (by kernel_rfl)),
  f217 := Try.func295.trans (congrArg some (by kernel_rfl)),
  f219 := Try.func276.trans (congrArg some (by kernel_rfl)),
  f224 := Try.func297.trans (congrArg some (by kernel_rfl)),
  f225 := Try.func296.trans (congrArg some (by kernel_rfl)),
  f266 := Try.func314.trans (congrArg some (by kernel_rfl)),
  f267 := Try.func298.trans (congrArg some (by kernel_rfl)),
  f314 := Try.func315.trans (congrArg some (by kernel_rfl)),
  t3 := Try.underlying3,
  a3 := Try.isAgg3,
  z3 := Try.sizeOf3,
  v3 := Try.zeroValue3,
  t4 := Try.underlying4,
  a4 := Try.isAgg4,
  z4 := Try.sizeOf4,
  v4 := Try.zeroValue4,
  t5 := Try.underlying5,
  a5 := Try.isAgg5,
  z5 := Try.sizeOf5,
  v5 := Try.zeroValue5,
  t9 := Try.underlying9,
  a9 := Try.isAgg9,
  z9 := Try.sizeOf9,
  v9 := Try.zeroValue9,
  t46 := Try.underlying181,
  a46 := Try.isAgg181,
  z46 := Try.sizeOf181,
  v46 := Try.zeroValue181,
  t51 := Try.underlying194,
  a51 := Try.isAgg194,
  z51 := Try.sizeOf194,
  v51 := Try.zeroValue194,
  t146 := Try.underlying196,
  a146 := Try.isAgg196,
  z146 := Try.sizeOf196,
  v146 := Try.zeroValue196,
  g1 := by kernel_rfl }
end Go.Proofs.Ythenlapjhlljnaa.V
