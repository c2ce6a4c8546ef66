/- How a sheet of heights is read as an argument. -/
import Derived.Test.YtcpimcjmckljfaaOpens
namespace Go.Proofs.Ytcpimcjmckljfaa
open Go.ChangeShapes Go.WideShapes Go.ChangeAt Go.RowKit Go.Deep Go.Joins

theorem Try.cells39 : Try.prog.cellsOf 39 = 3 := by kernel_rfl
section
variable {H : Type} {enc : TypeId × Value → H} {W W' : World}

set_option maxRecDepth 100000 in
theorem open_sheet {base : Nat} {r : Reach} {v : Value} {d : DataW H} {p : List MemPlace} (hv : Value.okWide Try.prog W r base 39 v) (h : DataW.Trod enc Try.prog W 0 (fun _ => true) true 39 v d p) :
    ∃ wd hg A n c xs, v = .agg #[.int .i64 wd, .int .i64 hg, .slice A n c] ∧ (-9223372036854775808 ≤ wd ∧ wd ≤ 9223372036854775807) ∧ (-9223372036854775808 ≤ hg ∧ hg ≤ 9223372036854775807) ∧ List.length xs = n ∧ n ≤ 9223372036854775807 ∧ Rd W W.heap.size A (xs.map (Value.float .f32)) := by
  obtain ⟨v0, v1, v2, y0, y1, y2, m, rfl, _, _, h0, h1, h2⟩ := open_agg3 Try.underlying39 (by kernel_rfl) Try.cells39 hv h
  obtain ⟨wd, e0, _, w0⟩ := DataW.trod_int Try.underlying2 h0
  obtain ⟨hg, e1, _, w1⟩ := DataW.trod_int Try.underlying2 h1
  obtain ⟨A, n, c, xs, e2, hn, hm, hr, _⟩ := open_f32S h2
  simp at e0 e1 e2
  subst e0 e1 e2
  exact ⟨wd, hg, A, n, c, xs, rfl, wf_i64 w0, wf_i64 w1, hn, hm, hr⟩
end
end Go.Proofs.Ytcpimcjmckljfaa
