import Derived.Test.YtinmfblemgkboaaFnd
import Derived.KernelRfl
/- The plain law of FnExactFirstDesk: no arguments: the plain function is reckoned out. -/
set_option maxRecDepth 100000
namespace Go.Proofs.Ytinmfblemgkboaa.V
open Go Go.Ev Go.Proofs
theorem pure4 : F4 () = (true, ()) := by kernel_rfl
end Go.Proofs.Ytinmfblemgkboaa.V
