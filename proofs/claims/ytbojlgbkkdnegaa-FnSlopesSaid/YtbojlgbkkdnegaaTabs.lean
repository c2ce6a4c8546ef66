/- All terms of the spectra. -/
import Derived.Test.YtbojlgbkkdnegaaTabA
import Derived.Test.YtbojlgbkkdnegaaTabB
import Derived.Test.YtbojlgbkkdnegaaTabC
import Derived.Test.YtbojlgbkkdnegaaTabD
import Derived.Test.YtbojlgbkkdnegaaTapA
import Derived.Test.YtbojlgbkkdnegaaTapB
import Derived.Test.YtbojlgbkkdnegaaTapC
import Derived.Test.YtbojlgbkkdnegaaSpl
import Derived.Test.YtbojlgbkkdnegaaSpn
namespace Go.Proofs.Ytbojlgbkkdnegaa
open Ieee Go.RowKit
theorem all_pairs : AllPairs := by
  intro a m h1 h2 h3 h4
  obtain ⟨k, rfl⟩ : ∃ k : Nat, m = (k : Int) := ⟨m.toNat, by omega⟩
  have key : rowP k = true := by
    rcases (show k = 1 ∨ k = 2 ∨ k = 3 ∨ k = 4 ∨ k = 5 ∨ k = 6 ∨ k = 7 ∨ k = 8 by omega) with rfl | rfl | rfl | rfl | rfl | rfl | rfl | rfl
    · exact rowP1
    · exact rowP2
    · exact rowP3
    · exact rowP4
    · exact rowP5
    · exact rowP6
    · exact rowP7
    · exact rowP8
  have h := all_lt key (j := (a - (k : Int)).toNat) (by omega)
  rw [show ((k + (a - (k : Int)).toNat : Nat) : Int) = a by omega] at h
  exact pair_of h
theorem pl_all {n : Nat} {i : Int} (h1 : 2 ≤ n) (h2 : n ≤ 9) (h3 : 0 ≤ i) (h4 : i ≤ 12) : PlOk n i := by
  have key : rowQ n = true := by
    rcases (show n = 2 ∨ n = 3 ∨ n = 4 ∨ n = 5 ∨ n = 6 ∨ n = 7 ∨ n = 8 ∨ n = 9 by omega) with rfl | rfl | rfl | rfl | rfl | rfl | rfl | rfl
    · exact rowQ2
    · exact rowQ3
    · exact rowQ4
    · exact rowQ5
    · exact rowQ6
    · exact rowQ7
    · exact rowQ8
    · exact rowQ9
  have h := all_lt key (j := i.toNat) (by omega)
  rw [show ((i.toNat : Nat) : Int) = i by omega] at h
  exact pl_of h
end Go.Proofs.Ytbojlgbkkdnegaa
