/- The spectra of masses that are all the same: part C. -/
import Derived.Test.YtbojlgbkkdnegaaTap
namespace Go.Proofs.Ytbojlgbkkdnegaa
open Ieee Go.RowKit
theorem rowQ6 : rowQ 6 = true := by decide +kernel
theorem rowQ7 : rowQ 7 = true := by decide +kernel
end Go.Proofs.Ytbojlgbkkdnegaa
