import Derived.Test.YtdlbmbijobcljaaDoorRows
import Derived.ProofKit
/-! What of joinedFacts is the program's alone: shown once for all rows. -/
namespace Go.Proofs.YtdlbmbijobcljaaDoor
open Go
theorem jMay : Tryd.prog.mayEnter = true := by kernel_rfl
theorem jLaid : laidOutB Tryd.prog = true := by kernel_rfl
theorem jRowed : mapsRowed Tryd.prog = true := by kernel_rfl
theorem jHeard : Tryd.prog.stopsHeard = true := by kernel_rfl
theorem jStops : (Tryd.prog.stops == []) = true := by kernel_rfl
theorem jKnobs : (Tryd.prog.stopKnobs == []) = true := by kernel_rfl
theorem jPlain : (Rows.featureInversesRow.plainKeys == Tryd.prog.plainKeys) = true := by kernel_rfl
end Go.Proofs.YtdlbmbijobcljaaDoor
