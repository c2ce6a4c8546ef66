/- Closed facts on the whole translation, once for all laws of this seat. -/
import Derived.Test.YtbojlgbkkdnegaaRows
import Derived.JoinedOf
import Derived.ProofKit
namespace Go.Proofs.Ytbojlgbkkdnegaa
theorem Once.laid : laidOutB Try.prog = true := by kernel_rfl
theorem Once.maps : mapsRowed Try.prog = true := by kernel_rfl
theorem Once.stops : (Try.prog.stops == []) = true := by kernel_rfl
theorem Once.knobs : (Try.prog.stopKnobs == []) = true := by kernel_rfl
theorem Once.keys : (Rows.fnWalksRow.plainKeys == Try.prog.plainKeys) = true := by kernel_rfl
theorem Once.heard : Try.prog.stopsHeard = true := by kernel_rfl
theorem Once.enter : Try.prog.mayEnter = true := by kernel_rfl
theorem Once.lifts : (Rows.fnWalksRow.lifted == Try.prog.liftsFinal) = true := by kernel_rfl
theorem Once.make_ : (Try.prog.make == some Rows.fnWalksRow.make) = true := by kernel_rfl
end Go.Proofs.Ytbojlgbkkdnegaa
