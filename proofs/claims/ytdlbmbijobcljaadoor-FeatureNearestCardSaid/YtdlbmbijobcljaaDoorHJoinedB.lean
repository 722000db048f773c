import Derived.Test.YtdlbmbijobcljaaDoorRows
import Derived.ProofKit
namespace Go.Proofs.YtdlbmbijobcljaaDoor
open Go
theorem jLifts : (Rows.featureInversesRow.lifted == Tryd.prog.liftsFinal) = true := by kernel_rfl
end Go.Proofs.YtdlbmbijobcljaaDoor
