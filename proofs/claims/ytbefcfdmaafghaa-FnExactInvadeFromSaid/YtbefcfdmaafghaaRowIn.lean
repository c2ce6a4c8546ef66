/- Rows and boxes of a law's own, and what a write into one of them leaves of the others. -/
import Derived.Test.YtbefcfdmaafghaaClone
namespace Go.Proofs.Ytbefcfdmaafghaa
open Go.RowKit
/-- a row of the call's own that lies between two blocks -/
def RowIn (w : World) (el : TypeId) (lo hi : Nat) (A : Option Addr) (n c : Nat) (xs : List Value) : Prop :=
  w.ownsRow lo el 1 (.slice A n c) n xs ∧ ∀ k, (Value.slice A n c).ownBlock = some k → k < hi
section
variable {w w' : World} {el el' : TypeId} {lo hi lo' hi' B : Nat} {A A' : Option Addr} {n c n' c' : Nat} {xs xs' : List Value}
theorem RowIn.new (ho : w.ownsRow lo el 1 (.slice A n c) n xs) : RowIn w el lo w.heap.size A n c xs := ⟨ho, fun k hk => (ho.lt k hk).2⟩
theorem RowIn.below (h : RowIn w el lo hi A n c xs) (hb : Below B w w') (hB : hi ≤ B) : RowIn w' el lo hi A n c xs :=
  ⟨own_below h.1 hb fun k hk => Nat.lt_of_lt_of_le (h.2 k hk) hB, h.2⟩
theorem RowIn.rd (h : RowIn w el lo hi A n c xs) : Rd w w.heap.size A xs := Rd.own h.1
theorem RowIn.grown (h : RowIn w el lo hi A n c xs) (h' : RowIn w el' lo' hi' A' n' c' xs') (hg : w.grownBy w' (Value.slice A' n' c').ownBlock) (hd : hi ≤ lo' ∨ hi' ≤ lo) : RowIn w' el lo hi A n c xs := by
  refine ⟨h.1.kept hg ?_, h.2⟩
  cases hk : (Value.slice A n c).ownBlock with
  | none => exact .inl rfl
  | some k =>
    right
    intro he
    have h1 := h.2 k hk
    have h2 := (h.1.lt k hk).1
    have h3 := h'.2 k he.symm
    have h4 := (h'.1.lt k he.symm).1
    omega
theorem FBox.grownR {b : Nat} {wd hg : Int} {v : Value} (h : FBox w b wd hg v) (h' : RowIn w el' lo' hi' A' n' c' xs') (hgr : w.grownBy w' (Value.slice A' n' c').ownBlock) (hlt : b < w.heap.size) (hd : b < lo' ∨ hi' ≤ b) : FBox w' b wd hg v :=
  h.grown hgr hlt fun he => by
    have h3 := h'.2 b he.symm
    have h4 := (h'.1.lt b he.symm).1
    omega
theorem belowGrownR {a : World} (h : Below B a w) (h' : RowIn w el' lo' hi' A' n' c' xs') (hgr : w.grownBy w' (Value.slice A' n' c').ownBlock) (hB : B ≤ w.heap.size) (hlo : B ≤ lo') : Below B a w' :=
  h.grown hgr hB fun k hk => Nat.le_trans hlo (h'.1.lt k hk).1
theorem RowIn.written (h : RowIn w el lo hi A n c xs) (ho : w'.ownsRow lo el 1 (.slice A n c) n xs') : RowIn w' el lo hi A n c xs' := ⟨ho, h.2⟩
end
end Go.Proofs.Ytbefcfdmaafghaa
