/- Logarithms of quotients: part A. -/
import Derived.Test.YtbojlgbkkdnegaaLgT
namespace Go.Proofs.Ytbojlgbkkdnegaa
open Ieee Go.RowKit
theorem row1 : rowB 1 = true := by decide +kernel
theorem row2 : rowB 2 = true := by decide +kernel
theorem row3 : rowB 3 = true := by decide +kernel
theorem row4 : rowB 4 = true := by decide +kernel
theorem row5 : rowB 5 = true := by decide +kernel
end Go.Proofs.Ytbojlgbkkdnegaa
