/- The spectra of masses that are all the same: part B. -/
import Derived.Test.YtbojlgbkkdnegaaTap
namespace Go.Proofs.Ytbojlgbkkdnegaa
open Ieee Go.RowKit
theorem rowQ4 : rowQ 4 = true := by decide +kernel
theorem rowQ5 : rowQ 5 = true := by decide +kernel
theorem rowQ9 : rowQ 9 = true := by decide +kernel
end Go.Proofs.Ytbojlgbkkdnegaa
