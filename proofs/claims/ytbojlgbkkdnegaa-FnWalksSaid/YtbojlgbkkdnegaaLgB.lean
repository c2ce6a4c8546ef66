/- Logarithms of quotients: part B. -/
import Derived.Test.YtbojlgbkkdnegaaLgT
namespace Go.Proofs.Ytbojlgbkkdnegaa
open Ieee Go.RowKit
theorem row6 : rowB 6 = true := by decide +kernel
theorem row7 : rowB 7 = true := by decide +kernel
theorem row8 : rowB 8 = true := by decide +kernel
theorem row9 : rowB 9 = true := by decide +kernel
theorem row10 : rowB 10 = true := by decide +kernel
end Go.Proofs.Ytbojlgbkkdnegaa
