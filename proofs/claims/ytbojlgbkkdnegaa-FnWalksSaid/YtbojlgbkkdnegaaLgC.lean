/- Logarithms of quotients: part C. -/
import Derived.Test.YtbojlgbkkdnegaaLgT
namespace Go.Proofs.Ytbojlgbkkdnegaa
open Ieee Go.RowKit
theorem row11 : rowB 11 = true := by decide +kernel
theorem row12 : rowB 12 = true := by decide +kernel
theorem row13 : rowB 13 = true := by decide +kernel
theorem row14 : rowB 14 = true := by decide +kernel
theorem row15 : rowB 15 = true := by decide +kernel
theorem row16 : rowB 16 = true := by decide +kernel
end Go.Proofs.Ytbojlgbkkdnegaa
