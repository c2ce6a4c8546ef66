/- How the arguments of the laws are read: bools in a slice, a field; and what a law leaves of its arguments. -/
import Derived.Test.YtbefcfdmaafghaaWords
import Derived.ProofKit
import Derived.SizedLaws
import Derived.Lib.SmallJoins
import Derived.Deep.Grids
namespace Go.Proofs.Ytbefcfdmaafghaa
open Go.ChangeShapes Go.WideShapes Go.ChangeAt Go.RowKit Go.Deep Go.Joins

theorem Try.own : ownKnob Try.prog.godebug = none := by kernel_rfl
theorem Try.laidOut : laidOutB Try.prog = true := by kernel_rfl
theorem Try.cells4 : Try.prog.cellsOf 4 = 1 := by kernel_rfl
theorem Try.cells24 : Try.prog.cellsOf 24 = 3 := by kernel_rfl

section
variable {H : Type} {enc : TypeId × Value → H} {W W' : World}

/-- Behind a call that only made memory all arguments read as they did. -/
theorem trodAll_below (ts : List TypeId) (hr : ∀ t ∈ ts, Try.prog.readableRec t = true ∧ t < Try.prog.types.size) {vs : List Value} {ds : List (DataW H)} {ps : List MemPlace}
    (h : DataW.TrodAll enc Try.prog W 0 (fun _ => true) true ts vs ds ps) (hb : Below W.heap.size W W') (hlt : ∀ x ∈ ps, x.block < W.heap.size) :
    DataW.TrodAll enc Try.prog W' 0 (fun b => decide (b < W.heap.size)) true ts vs ds ps := by
  induction ts generalizing vs ds ps with
  | nil =>
    cases vs <;> cases ds <;> simp [DataW.TrodAll] at h ⊢
    exact h
  | cons t ts ih =>
    obtain ⟨v, vs', d, ds', p, q, rfl, rfl, rfl, h0, h1⟩ := trodAll_cons h
    refine ⟨p, q, ?_, ih (fun x hx => hr x (List.mem_cons_of_mem _ hx)) h1 (fun x hx => hlt x (List.mem_append_right _ hx)), rfl⟩
    exact Below.trod Try.laidOut (hr t List.mem_cons_self).1 (hr t List.mem_cons_self).2 h0 hb (fun x hx => hlt x (List.mem_append_left _ hx))

theorem open_boolS {fuel : Nat} {cs : List Value} {x : DataW H × List MemPlace} (h : DataW.trod enc Try.prog W 0 (fun _ => true) true fuel 22 cs = some x) :
    ∃ A n c bs, cs = [.slice A n c] ∧ List.length bs = n ∧ n ≤ 9223372036854775807 ∧ Rd W W.heap.size A (bs.map Value.bool) := by
  rcases open_bools Try.underlying22 Try.underlying4 Try.cells4 h with ⟨rfl, _⟩ | ⟨a, len, cap, B, rfl, _, hl, hm, _, hx⟩
  · exact ⟨none, 0, 0, [], rfl, rfl, by omega, .inl rfl⟩
  · unfold maxLen at hm
    refine ⟨some a, len, cap, (List.range len).map B, rfl, by simp, by omega, ?_⟩
    by_cases h0 : len = 0
    · left; subst h0; rfl
    · right
      have hc := World.block_lt_of_cell? W (a.add 0) (hx 0 (by omega))
      rw [add_block] at hc
      refine ⟨a, rfl, hc, fun j u hu => ?_⟩
      rw [List.getElem?_map, List.getElem?_map] at hu
      by_cases hj : j < len
      · rw [List.getElem?_range hj] at hu
        simp at hu
        rw [hx j (by omega), ← hu]
      · rw [List.getElem?_eq_none (by simp; omega)] at hu
        simp at hu

set_option maxRecDepth 100000 in
theorem open_field {base : Nat} {r : Reach} {v : Value} {d : DataW H} {p : List MemPlace} (hv : Value.okWide Try.prog W r base 24 v) (h : DataW.Trod enc Try.prog W 0 (fun _ => true) true 24 v d p) :
    ∃ wd hg A n c bs, v = .agg #[.int .i64 wd, .int .i64 hg, .slice A n c] ∧ (-9223372036854775808 ≤ wd ∧ wd ≤ 9223372036854775807) ∧ (-9223372036854775808 ≤ hg ∧ hg ≤ 9223372036854775807) ∧ List.length bs = n ∧ n ≤ 9223372036854775807 ∧ Rd W W.heap.size A (bs.map Value.bool) := by
  obtain ⟨v0, v1, v2, y0, y1, y2, m, rfl, _, _, h0, h1, h2⟩ := open_agg3 Try.underlying24 (by kernel_rfl) Try.cells24 hv h
  obtain ⟨wd, e0, _, w0⟩ := DataW.trod_int Try.underlying2 h0
  obtain ⟨hg, e1, _, w1⟩ := DataW.trod_int Try.underlying2 h1
  obtain ⟨A, n, c, bs, e2, hn, hm, hr⟩ := open_boolS h2
  simp at e0 e1 e2
  subst e0 e1 e2
  have hb (z : Int) (hz : (Lit.int .i64 z).wf = true) : -9223372036854775808 ≤ z ∧ z ≤ 9223372036854775807 := by
    have h1 : IntKind.i64.min = -9223372036854775808 := rfl
    have h2 : IntKind.i64.max = 9223372036854775807 := rfl
    simp only [Lit.wf, Bool.and_eq_true, decide_eq_true_eq] at hz
    omega
  exact ⟨wd, hg, A, n, c, bs, rfl, hb _ w0, hb _ w1, hn, hm, hr⟩
end
end Go.Proofs.Ytbefcfdmaafghaa
