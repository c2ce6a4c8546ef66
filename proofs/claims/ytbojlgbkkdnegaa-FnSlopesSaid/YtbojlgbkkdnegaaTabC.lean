/- The terms of the spectra of small masses: part C. -/
import Derived.Test.YtbojlgbkkdnegaaTab
namespace Go.Proofs.Ytbojlgbkkdnegaa
open Ieee Go.RowKit
theorem rowP3 : rowP 3 = true := by decide +kernel
theorem rowP6 : rowP 6 = true := by decide +kernel
end Go.Proofs.Ytbojlgbkkdnegaa
