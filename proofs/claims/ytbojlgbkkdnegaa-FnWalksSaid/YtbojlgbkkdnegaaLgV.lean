/- The logarithm of a quotient of two small whole numbers. -/
import Derived.Test.YtbojlgbkkdnegaaLgA
import Derived.Test.YtbojlgbkkdnegaaLgB
import Derived.Test.YtbojlgbkkdnegaaLgC
import Derived.Test.YtbojlgbkkdnegaaLgD
namespace Go.Proofs.Ytbojlgbkkdnegaa
open Ieee Go.RowKit
theorem lg_v {a b : Nat} (h1 : 1 ≤ b) (h2 : b < a) (h3 : a ≤ 32) : Is .f32 (lgT a b) ∧ 1 / 100 ≤ vl .f32 (lgT a b) ∧ vl .f32 (lgT a b) ≤ 4 := by
  have key : rowB b = true := by
    have hb : b < 32 := by omega
    match b, h1, hb with
    | 1, _, _ => exact row1
    | 2, _, _ => exact row2
    | 3, _, _ => exact row3
    | 4, _, _ => exact row4
    | 5, _, _ => exact row5
    | 6, _, _ => exact row6
    | 7, _, _ => exact row7
    | 8, _, _ => exact row8
    | 9, _, _ => exact row9
    | 10, _, _ => exact row10
    | 11, _, _ => exact row11
    | 12, _, _ => exact row12
    | 13, _, _ => exact row13
    | 14, _, _ => exact row14
    | 15, _, _ => exact row15
    | 16, _, _ => exact row16
    | 17, _, _ => exact row17
    | 18, _, _ => exact row18
    | 19, _, _ => exact row19
    | 20, _, _ => exact row20
    | 21, _, _ => exact row21
    | 22, _, _ => exact row22
    | 23, _, _ => exact row23
    | 24, _, _ => exact row24
    | 25, _, _ => exact row25
    | 26, _, _ => exact row26
    | 27, _, _ => exact row27
    | 28, _, _ => exact row28
    | 29, _, _ => exact row29
    | 30, _, _ => exact row30
    | 31, _, _ => exact row31
    | 0, h1, _ => exact absurd h1 (by decide)
    | n + 32, _, hb => exact absurd hb (by omega)
  have h := all_lt key (j := a - b - 1) (by omega)
  rw [show b + 1 + (a - b - 1) = a from by omega] at h
  unfold lgB at h
  simp only [Bool.and_eq_true, decide_eq_true_eq] at h
  exact ⟨is_fin h.1, h.2.1, h.2.2⟩
theorem lg_eq {a : Nat} (h1 : 1 ≤ a) (h2 : a ≤ 32) : lgT a a = 0 := by
  have h := all_lt (p := fun j => lgT (j + 1) (j + 1) == 0) (n := 32) (by decide +kernel) (j := a - 1) (by omega)
  rw [show a - 1 + 1 = a from by omega] at h
  exact eq_of_beq h
end Go.Proofs.Ytbojlgbkkdnegaa
