/- Small laws on worlds and rows. -/
import Derived.Test.YtcpimcjmckljfaaSmall
namespace Go.Proofs.Ytcpimcjmckljfaa
open Go.RowKit
theorem World.grownBy.trans' {a b c : World} {r : Option Nat} (h : a.grownBy b r) (k : b.grownBy c r) : a.grownBy c r :=
  ⟨k.os.trans h.os, k.tape.trans h.tape, k.output.trans h.output, Nat.le_trans h.size k.size, fun i hi hne => (k.block i (Nat.lt_of_lt_of_le hi h.size) hne).trans (h.block i hi hne)⟩

/-- A round of filling: place j gets f j. -/
theorem fillF_step (f : Nat → Value) (xs : List Value) (j : Nat) (hj : j < xs.length) :
    ((List.range j).map f ++ xs.drop j).set j (f j) = (List.range (j + 1)).map f ++ xs.drop (j + 1) := by
  have e1 : ((List.range j).map f).length = j := by simp
  have e2 : xs.drop j = xs[j] :: xs.drop (j + 1) := by rw [List.drop_eq_getElem_cons hj]
  rw [List.set_append_right _ _ (by omega), e1, Nat.sub_self, e2, List.set_cons_zero, List.range_succ, List.map_append]
  simp

end Go.Proofs.Ytcpimcjmckljfaa
