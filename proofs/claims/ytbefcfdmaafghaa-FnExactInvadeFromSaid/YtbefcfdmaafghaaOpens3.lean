/- How a slice of floats among the arguments reads. -/
import Derived.Test.YtbefcfdmaafghaaOpens2
namespace Go.Proofs.Ytbefcfdmaafghaa
open Go.ChangeShapes Go.WideShapes Go.ChangeAt Go.RowKit Go.Deep Go.Joins
section
variable {H : Type} {enc : TypeId × Value → H} {W : World}
theorem trod_f32 {fuel : Nat} {v : Value} {y : DataW H × List MemPlace} (hy : DataW.trod enc Try.prog W 0 (fun _ => true) true fuel 43 [v] = some y) : ∃ b, v = .float .f32 b ∧ b < 2 ^ 32 := by
  cases fuel with
  | zero => simp [DataW.trod] at hy
  | succ n =>
    simp only [DataW.trod, Try.underlying43] at hy
    cases v with
    | float k b =>
      cases k with
      | f32 =>
        by_cases hw : (Lit.float .f32 b).wf = true
        · simp [Lit.wf] at hw
          exact ⟨b, rfl, hw⟩
        · simp [hw] at hy
      | f64 => simp at hy
    | _ => simp at hy
theorem Try.cells43' : Try.prog.cellsOf 43 = 1 := by kernel_rfl
theorem open_f32S {fuel : Nat} {cs : List Value} {x : DataW H × List MemPlace} (h : DataW.trod enc Try.prog W 0 (fun _ => true) true fuel 72 cs = some x) :
    ∃ A n c xs, cs = [.slice A n c] ∧ List.length xs = n ∧ n ≤ 9223372036854775807 ∧ Rd W W.heap.size A (xs.map (Value.float .f32)) ∧ ∀ a ∈ xs, a < 2 ^ 32 :=
  open_oneS (Value.float .f32) _ Try.underlying72 Try.cells43' (fun _ _ _ hy => trod_f32 hy) h
end
end Go.Proofs.Ytbefcfdmaafghaa
