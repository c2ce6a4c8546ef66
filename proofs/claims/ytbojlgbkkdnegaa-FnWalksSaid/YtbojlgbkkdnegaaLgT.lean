/- The logarithm of a quotient of two small whole numbers: the test of one. -/
import Derived.Test.YtbojlgbkkdnegaaRa
import Derived.Test.YtbojlgbkkdnegaaRo
namespace Go.Proofs.Ytbojlgbkkdnegaa
open Ieee Go.RowKit
def lgT (a b : Nat) : Nat := logX (fop .quo .f32 (floatOfInt .f32 (a : Int)) (floatOfInt .f32 (b : Int)))
def lgB (x : Nat) : Bool := finB x && (decide (1 / 100 ≤ vl .f32 x) && decide (vl .f32 x ≤ 4))
/-- all quotients of greater numbers and b -/
def rowB (b : Nat) : Bool := (List.range (32 - b)).all fun j => lgB (lgT (b + 1 + j) b)
end Go.Proofs.Ytbojlgbkkdnegaa
