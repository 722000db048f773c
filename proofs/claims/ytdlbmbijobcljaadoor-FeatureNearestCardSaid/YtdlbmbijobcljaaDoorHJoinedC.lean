import Derived.Test.YtdlbmbijobcljaaDoorRows
import Derived.ProofKit
namespace Go.Proofs.YtdlbmbijobcljaaDoor
open Go
theorem jMake : (Tryd.prog.make == some Rows.featureInversesRow.make) = true := by kernel_rfl
end Go.Proofs.YtdlbmbijobcljaaDoor
