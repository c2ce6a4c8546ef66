/- The terms of the spectra of small masses: the test of one. -/
import Derived.Test.YtbojlgbkkdnegaaSpec
import Derived.Test.YtbojlgbkkdnegaaRe
namespace Go.Proofs.Ytbojlgbkkdnegaa
open Ieee Go.RowKit
/-- the square of a share, by logarithm and power -/
def eT (a m : Int) : Nat := (expB (fop .mul .f32 1073741824 (logC (pF a m)))).getD 0
/-- what is known of a mass m of all a -/
structure PairOk (a m : Int) : Prop where
  quo : floatBits .quo .f32 (fOf m) (fOf a) = some (pF a m)
  fin : finB (pF a m) = true
  pos : FloatKind.f32.format.order (pF a m) 0 = some .gt
  zero : floatBits .mul .f32 0 (logC (pF a m)) = some 0 ∨ floatBits .mul .f32 0 (logC (pF a m)) = some 2147483648
  two : floatBits .mul .f32 1073741824 (logC (pF a m)) = some (fop .mul .f32 1073741824 (logC (pF a m)))
  ex : expB (fop .mul .f32 1073741824 (logC (pF a m))) = some (eT a m)
  is : Is .f32 (eT a m)
  lo : (m : Rat) * m * (65535 / 65536) ≤ vl .f32 (eT a m) * (a * a)
  hi : vl .f32 (eT a m) ≤ 2
def pairB (a m : Int) : Bool :=
  (floatBits .quo .f32 (fOf m) (fOf a) == some (pF a m)) && (finB (pF a m) && (gtB (pF a m) && ((floatBits .mul .f32 0 (logC (pF a m)) == some 0 || floatBits .mul .f32 0 (logC (pF a m)) == some 2147483648) && ((floatBits .mul .f32 1073741824 (logC (pF a m)) == some (fop .mul .f32 1073741824 (logC (pF a m)))) &&
  ((expB (fop .mul .f32 1073741824 (logC (pF a m))) == some (eT a m)) && (finB (eT a m) && (decide ((m : Rat) * m * (65535 / 65536) ≤ vl .f32 (eT a m) * (a * a)) && decide (vl .f32 (eT a m) ≤ 2))))))))
theorem pair_of {a m : Int} (h : pairB a m = true) : PairOk a m := by
  unfold pairB at h
  simp only [Bool.and_eq_true, Bool.or_eq_true, beq_iff_eq, decide_eq_true_eq] at h
  obtain ⟨h1, h2, h3, h4, h5, h6, h7, h8, h9⟩ := h
  exact ⟨h1, h2, gtB_t h3, h4, h5, h6, is_fin h7, h8, h9⟩
/-- all sums from m to 72 -/
def rowP (m : Nat) : Bool := (List.range (73 - m)).all fun j => pairB ((m + j : Nat) : Int) (m : Int)
end Go.Proofs.Ytbojlgbkkdnegaa
