/- Logarithms of quotients: part D. -/
import Derived.Test.YtbojlgbkkdnegaaLgT
namespace Go.Proofs.Ytbojlgbkkdnegaa
open Ieee Go.RowKit
theorem row17 : rowB 17 = true := by decide +kernel
theorem row18 : rowB 18 = true := by decide +kernel
theorem row19 : rowB 19 = true := by decide +kernel
theorem row20 : rowB 20 = true := by decide +kernel
theorem row21 : rowB 21 = true := by decide +kernel
theorem row22 : rowB 22 = true := by decide +kernel
theorem row23 : rowB 23 = true := by decide +kernel
theorem row24 : rowB 24 = true := by decide +kernel
theorem row25 : rowB 25 = true := by decide +kernel
theorem row26 : rowB 26 = true := by decide +kernel
theorem row27 : rowB 27 = true := by decide +kernel
theorem row28 : rowB 28 = true := by decide +kernel
theorem row29 : rowB 29 = true := by decide +kernel
theorem row30 : rowB 30 = true := by decide +kernel
theorem row31 : rowB 31 = true := by decide +kernel
end Go.Proofs.Ytbojlgbkkdnegaa
