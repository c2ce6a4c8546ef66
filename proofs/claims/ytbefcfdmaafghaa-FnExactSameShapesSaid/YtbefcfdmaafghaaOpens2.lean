/- How the arguments of the laws are read: a shape, ints, floats. -/
import Derived.Test.YtbefcfdmaafghaaOpens
namespace Go.Proofs.Ytbefcfdmaafghaa
open Go.ChangeShapes Go.WideShapes Go.ChangeAt Go.RowKit Go.Deep Go.Joins
theorem Try.cells9 : Try.prog.cellsOf 9 = 1 := by kernel_rfl
theorem Try.cells48 : Try.prog.cellsOf 48 = 4 := by kernel_rfl
theorem Try.cells2 : Try.prog.cellsOf 2 = 1 := by kernel_rfl
theorem Try.cells22 : Try.prog.cellsOf 22 = 1 := by kernel_rfl
theorem Try.cells66 : Try.prog.cellsOf 66 = 1 := by kernel_rfl
theorem Try.cells72 : Try.prog.cellsOf 72 = 1 := by kernel_rfl
theorem Try.cells43 : Try.prog.cellsOf 43 = 1 := by kernel_rfl
theorem wf_i64 {z : Int} (hz : (Lit.int .i64 z).wf = true) : -9223372036854775808 ≤ z ∧ z ≤ 9223372036854775807 := by
  have h1 : IntKind.i64.min = -9223372036854775808 := rfl
  have h2 : IntKind.i64.max = 9223372036854775807 := rfl
  simp only [Lit.wf, Bool.and_eq_true, decide_eq_true_eq] at hz
  omega
section
variable {H : Type} {enc : TypeId × Value → H} {W : World}
theorem open_fieldC {fuel : Nat} {c0 c1 c2 : Value} {x : DataW H × List MemPlace} (h : DataW.trod enc Try.prog W 0 (fun _ => true) true fuel 24 [c0, c1, c2] = some x) :
    ∃ wd hg A n c bs, c0 = .int .i64 wd ∧ c1 = .int .i64 hg ∧ c2 = .slice A n c ∧ (-9223372036854775808 ≤ wd ∧ wd ≤ 9223372036854775807) ∧ (-9223372036854775808 ≤ hg ∧ hg ≤ 9223372036854775807) ∧ List.length bs = n ∧ n ≤ 9223372036854775807 ∧ Rd W W.heap.size A (bs.map Value.bool) := by
  obtain ⟨y0, y1, y2, m, _, _, h0, h1, h2⟩ := trod_struct3 Try.underlying24 h
  simp only [Try.cells2, Try.cells22, List.drop, List.take] at h0 h1 h2
  obtain ⟨wd, e0, _, w0⟩ := DataW.trod_int Try.underlying2 h0
  obtain ⟨hg, e1, _, w1⟩ := DataW.trod_int Try.underlying2 h1
  obtain ⟨A, n, c, bs, e2, hn, hm, hr⟩ := open_boolS h2
  simp at e0 e1 e2
  exact ⟨wd, hg, A, n, c, bs, e0, e1, e2, wf_i64 w0, wf_i64 w1, hn, hm, hr⟩
theorem open_shapeC {fuel : Nat} {c0 c1 c2 c3 : Value} {x : DataW H × List MemPlace} (h : DataW.trod enc Try.prog W 0 (fun _ => true) true fuel 48 [c0, c1, c2, c3] = some x) :
    ∃ nm wd hg A n c bs, c0 = .string nm ∧ c1 = .int .i64 wd ∧ c2 = .int .i64 hg ∧ c3 = .slice A n c ∧ nm.size ≤ 9223372036854775807 ∧ (-9223372036854775808 ≤ wd ∧ wd ≤ 9223372036854775807) ∧ (-9223372036854775808 ≤ hg ∧ hg ≤ 9223372036854775807) ∧ List.length bs = n ∧ n ≤ 9223372036854775807 ∧ Rd W W.heap.size A (bs.map Value.bool) := by
  obtain ⟨y0, y1, m, _, _, h0, h1⟩ := trod_struct2 Try.underlying48 h
  simp only [Try.cells9, Try.cells24, List.drop, List.take] at h0 h1
  obtain ⟨nm, e0, _, hs⟩ := DataW.trod_string Try.underlying9 h0
  obtain ⟨wd, hg, A, n, c, bs, e1, e2, e3, r⟩ := open_fieldC h1
  simp at e0
  unfold maxLen at hs
  exact ⟨nm, wd, hg, A, n, c, bs, e0, e1, e2, e3, hs, r⟩
set_option maxRecDepth 100000 in
theorem open_shape {base : Nat} {r : Reach} {v : Value} {d : DataW H} {p : List MemPlace} (hv : Value.okWide Try.prog W r base 48 v) (h : DataW.Trod enc Try.prog W 0 (fun _ => true) true 48 v d p) :
    ∃ nm wd hg A n c bs, v = .agg #[.string nm, .int .i64 wd, .int .i64 hg, .slice A n c] ∧ nm.size ≤ 9223372036854775807 ∧ (-9223372036854775808 ≤ wd ∧ wd ≤ 9223372036854775807) ∧ (-9223372036854775808 ≤ hg ∧ hg ≤ 9223372036854775807) ∧ List.length bs = n ∧ n ≤ 9223372036854775807 ∧ Rd W W.heap.size A (bs.map Value.bool) := by
  obtain ⟨cs, rfl, hsz⟩ := okWide_struct Try.underlying48 hv
  obtain ⟨c0, c1, c2, c3, rfl⟩ := array4 (hsz.trans Try.cells48)
  obtain ⟨fuel, hf⟩ := h
  have hf' : DataW.trod enc Try.prog W 0 (fun _ => true) true fuel 48 [c0, c1, c2, c3] = some (d, p) := hf
  obtain ⟨nm, wd, hg, A, n, c, bs, rfl, rfl, rfl, rfl, rest⟩ := open_shapeC hf'
  exact ⟨nm, wd, hg, A, n, c, bs, rfl, rest⟩

/-- a slice of one-cell values, each of which reads as one of f -/
theorem open_oneS {α : Type} [Inhabited α] (f : α → Value) (P : α → Prop) {t e : TypeId} (ht : Try.prog.underlying t = some (.slice e)) (hc : Try.prog.cellsOf e = 1)
    (ho : ∀ fuel v y, DataW.trod enc Try.prog W 0 (fun _ => true) true fuel e [v] = some y → ∃ a, v = f a ∧ P a)
    {fuel : Nat} {cs : List Value} {x : DataW H × List MemPlace} (h : DataW.trod enc Try.prog W 0 (fun _ => true) true fuel t cs = some x) :
    ∃ A n c xs, cs = [.slice A n c] ∧ List.length xs = n ∧ n ≤ 9223372036854775807 ∧ Rd W W.heap.size A (xs.map f) ∧ ∀ a ∈ xs, P a := by
  rcases open_slice1 ht hc h with ⟨rfl, _⟩ | ⟨a, len, cap, m, n, V, D, Pl, rfl, hb, hl, hm, hmm, _, hx⟩
  · exact ⟨none, 0, 0, [], rfl, rfl, by omega, .inl rfl, by simp⟩
  · simp only [if_true] at hmm
    subst hmm
    unfold maxLen at hm
    obtain ⟨g, hg⟩ := choose_lt (α := α) (p := fun i a' => V i = f a' ∧ P a') (fun i hi => ho n _ _ (hx i hi).2)
    refine ⟨some a, len, m, (List.range len).map g, rfl, by simp, by omega, ?_, ?_⟩
    · by_cases h0 : len = 0
      · left; subst h0; rfl
      · right
        have hc := World.block_lt_of_cell? W (a.add 0) (hx 0 (by omega)).1
        rw [add_block] at hc
        refine ⟨a, rfl, hc, fun j u hu => ?_⟩
        rw [List.getElem?_map, List.getElem?_map] at hu
        by_cases hj : j < len
        · rw [List.getElem?_range hj] at hu
          simp at hu
          rw [(hx j (by omega)).1, (hg j (by omega)).1, ← hu]
        · rw [List.getElem?_eq_none (by simp; omega)] at hu
          simp at hu
    · intro x hx
      simp at hx
      obtain ⟨j, hj, rfl⟩ := hx
      exact (hg j (by omega)).2
theorem open_intS {fuel : Nat} {cs : List Value} {x : DataW H × List MemPlace} (h : DataW.trod enc Try.prog W 0 (fun _ => true) true fuel 66 cs = some x) :
    ∃ A n c xs, cs = [.slice A n c] ∧ List.length xs = n ∧ n ≤ 9223372036854775807 ∧ Rd W W.heap.size A (xs.map (Value.int .i64)) ∧ ∀ a ∈ xs, -9223372036854775808 ≤ a ∧ a ≤ 9223372036854775807 :=
  open_oneS (Value.int .i64) _ Try.underlying66 Try.cells2 (fun fuel v y hy => by
    obtain ⟨z, e, _, wz⟩ := DataW.trod_int Try.underlying2 hy
    exact ⟨z, by simpa using e, wf_i64 wz⟩) h
end
end Go.Proofs.Ytbefcfdmaafghaa
