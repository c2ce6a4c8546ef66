/- The spectra of masses that are all the same: part A. -/
import Derived.Test.YtbojlgbkkdnegaaTap
namespace Go.Proofs.Ytbojlgbkkdnegaa
open Ieee Go.RowKit
theorem rowQ2 : rowQ 2 = true := by decide +kernel
theorem rowQ3 : rowQ 3 = true := by decide +kernel
theorem rowQ8 : rowQ 8 = true := by decide +kernel
end Go.Proofs.Ytbojlgbkkdnegaa
