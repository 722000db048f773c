import Derived.Test.YtdlbmbijobcljaaDoorRows
import Derived.ProofKit
namespace Go.Proofs.YtdlbmbijobcljaaDoor
open Go
theorem jMain : Tryd.prog.mainIs = some (true, ("113a42d89db8992b3819bea1327673c10f2f9c06b5576fb37f9626d51ac793bb" : String).toList) := by kernel_rfl
end Go.Proofs.YtdlbmbijobcljaaDoor
