/- The terms of the spectra of small masses: part B. -/
import Derived.Test.YtbojlgbkkdnegaaTab
namespace Go.Proofs.Ytbojlgbkkdnegaa
open Ieee Go.RowKit
theorem rowP2 : rowP 2 = true := by decide +kernel
theorem rowP7 : rowP 7 = true := by decide +kernel
end Go.Proofs.Ytbojlgbkkdnegaa
