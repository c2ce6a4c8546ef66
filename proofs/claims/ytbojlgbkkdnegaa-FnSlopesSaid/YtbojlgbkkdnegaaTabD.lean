/- The terms of the spectra of small masses: part D. -/
import Derived.Test.YtbojlgbkkdnegaaTab
namespace Go.Proofs.Ytbojlgbkkdnegaa
open Ieee Go.RowKit
theorem rowP4 : rowP 4 = true := by decide +kernel
theorem rowP5 : rowP 5 = true := by decide +kernel
end Go.Proofs.Ytbojlgbkkdnegaa
