/- What is true of the whole program, a fact at a time. No condition. -/
import Derived.Test.YthenlapjhlljnaaRows
import Derived.JoinedOf
import Derived.KernelRfl
set_option maxRecDepth 100000
namespace Go.Proofs.Ythenlapjhlljnaa.V
open Go Go.Proofs
theorem aT {a b : Bool} (h : a = true) (k : b = true) : (a && b) = true := by rw [h, k]; rfl
theorem c1 : laidOutB Try.checked.prog = true := by kernel_rfl
theorem c2 : mapsRowed Try.checked.prog = true := by kernel_rfl
theorem c24 : Try.checked.prog.stopsHeard = true := by kernel_rfl
theorem c25 : Try.checked.prog.mayEnter = true := by kernel_rfl
theorem c26 : (Rows.fnRisersPlacedRow.lifted == Try.checked.prog.liftsFinal) = true := by kernel_rfl
theorem c27 : (Try.checked.prog.make == some Rows.fnRisersPlacedRow.make) = true := by kernel_rfl
theorem c22 : (Rows.fnRisersPlacedRow.plainKeys == Try.checked.prog.plainKeys) = true := by kernel_rfl
end Go.Proofs.Ythenlapjhlljnaa.V
