/- Closed facts on the whole translation, once for all laws of this seat. -/
import Derived.Test.YtikleaiflmoffaaRows
import Derived.JoinedOf
import Derived.ProofKit
namespace Go.Proofs.Ytikleaiflmoffaa
theorem Once.laid : laidOutB Try.prog = true := by kernel_rfl
theorem Once.maps : mapsRowed Try.prog = true := by kernel_rfl
theorem Once.stops : (Try.prog.stops == []) = true := by kernel_rfl
theorem Once.knobs : (Try.prog.stopKnobs == []) = true := by kernel_rfl
theorem Once.keys : (Rows.fnMeasuresRow.plainKeys == Try.prog.plainKeys) = true := by kernel_rfl
theorem Once.heard : Try.prog.stopsHeard = true := by kernel_rfl
theorem Once.enter : Try.prog.mayEnter = true := by kernel_rfl
theorem Once.lifts : (Rows.fnMeasuresRow.lifted == Try.prog.liftsFinal) = true := by kernel_rfl
theorem Once.make_ : (Try.prog.make == some Rows.fnMeasuresRow.make) = true := by kernel_rfl
end Go.Proofs.Ytikleaiflmoffaa
