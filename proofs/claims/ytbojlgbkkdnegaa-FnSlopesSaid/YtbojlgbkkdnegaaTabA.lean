/- The terms of the spectra of small masses: part A. -/
import Derived.Test.YtbojlgbkkdnegaaTab
namespace Go.Proofs.Ytbojlgbkkdnegaa
open Ieee Go.RowKit
theorem rowP1 : rowP 1 = true := by decide +kernel
theorem rowP8 : rowP 8 = true := by decide +kernel
end Go.Proofs.Ytbojlgbkkdnegaa
