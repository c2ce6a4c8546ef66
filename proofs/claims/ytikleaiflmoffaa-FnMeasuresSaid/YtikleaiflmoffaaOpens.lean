/- How the arguments of the laws are read: ints, floats and slices of them; and what a law leaves of its arguments. -/
import Derived.Test.YtikleaiflmoffaaBa
import Derived.ProofKit
import Derived.SizedLaws
import Derived.Lib.SmallJoins
import Derived.Deep.Grids
namespace Go.Proofs.Ytikleaiflmoffaa
open Go.ChangeShapes Go.WideShapes Go.ChangeAt Go.RowKit Go.Deep Go.Joins

theorem Try.own : ownKnob Try.prog.godebug = none := by kernel_rfl
theorem Try.laidOut : laidOutB Try.prog = true := by kernel_rfl
theorem wf_i64 {z : Int} (hz : (Lit.int .i64 z).wf = true) : -9223372036854775808 ≤ z ∧ z ≤ 9223372036854775807 := by
  have h1 : IntKind.i64.min = -9223372036854775808 := rfl
  have h2 : IntKind.i64.max = 9223372036854775807 := rfl
  simp only [Lit.wf, Bool.and_eq_true, decide_eq_true_eq] at hz
  omega
section
variable {H : Type} {enc : TypeId × Value → H} {W W' : World}

/-- Behind a call that only made memory all arguments read as they did. -/
theorem trodAll_below (ts : List TypeId) (hr : ∀ t ∈ ts, Try.prog.readableRec t = true ∧ t < Try.prog.types.size) {vs : List Value} {ds : List (DataW H)} {ps : List MemPlace}
    (h : DataW.TrodAll enc Try.prog W 0 (fun _ => true) true ts vs ds ps) (hb : Below W.heap.size W W') (hlt : ∀ x ∈ ps, x.block < W.heap.size) :
    DataW.TrodAll enc Try.prog W' 0 (fun b => decide (b < W.heap.size)) true ts vs ds ps := by
  induction ts generalizing vs ds ps with
  | nil =>
    cases vs <;> cases ds <;> simp [DataW.TrodAll] at h ⊢
    exact h
  | cons t ts ih =>
    obtain ⟨v, vs', d, ds', p, q, rfl, rfl, rfl, h0, h1⟩ := trodAll_cons h
    refine ⟨p, q, ?_, ih (fun x hx => hr x (List.mem_cons_of_mem _ hx)) h1 (fun x hx => hlt x (List.mem_append_right _ hx)), rfl⟩
    exact Below.trod Try.laidOut (hr t List.mem_cons_self).1 (hr t List.mem_cons_self).2 h0 hb (fun x hx => hlt x (List.mem_append_left _ hx))

/-- a slice of one-cell values, each of which reads as one of f -/
theorem open_oneS {α : Type} [Inhabited α] (f : α → Value) (P : α → Prop) {t e : TypeId} (ht : Try.prog.underlying t = some (.slice e)) (hc : Try.prog.cellsOf e = 1)
    (ho : ∀ fuel v y, DataW.trod enc Try.prog W 0 (fun _ => true) true fuel e [v] = some y → ∃ a, v = f a ∧ P a)
    {fuel : Nat} {cs : List Value} {x : DataW H × List MemPlace} (h : DataW.trod enc Try.prog W 0 (fun _ => true) true fuel t cs = some x) :
    ∃ A n c xs, cs = [.slice A n c] ∧ List.length xs = n ∧ n ≤ 9223372036854775807 ∧ Rd W W.heap.size A (xs.map f) ∧ ∀ a ∈ xs, P a := by
  rcases open_slice1 ht hc h with ⟨rfl, _⟩ | ⟨a, len, cap, m, n, V, D, Pl, rfl, hb, hl, hm, hmm, _, hx⟩
  · exact ⟨none, 0, 0, [], rfl, rfl, by omega, .inl rfl, by simp⟩
  · simp only [if_true] at hmm
    subst hmm
    unfold maxLen at hm
    obtain ⟨g, hg⟩ := choose_lt (α := α) (p := fun i a' => V i = f a' ∧ P a') (fun i hi => ho n _ _ (hx i hi).2)
    refine ⟨some a, len, m, (List.range len).map g, rfl, by simp, by omega, ?_, ?_⟩
    · by_cases h0 : len = 0
      · left; subst h0; rfl
      · right
        have hc := World.block_lt_of_cell? W (a.add 0) (hx 0 (by omega)).1
        rw [add_block] at hc
        refine ⟨a, rfl, hc, fun j u hu => ?_⟩
        rw [List.getElem?_map, List.getElem?_map] at hu
        by_cases hj : j < len
        · rw [List.getElem?_range hj] at hu
          simp at hu
          rw [(hx j (by omega)).1, (hg j (by omega)).1, ← hu]
        · rw [List.getElem?_eq_none (by simp; omega)] at hu
          simp at hu
    · intro x hx
      simp at hx
      obtain ⟨j, hj, rfl⟩ := hx
      exact (hg j (by omega)).2
theorem Try.cells5' : Try.prog.cellsOf 5 = 1 := by kernel_rfl
theorem Try.under5 : Try.prog.underlying 5 = some (.int .u8) := by kernel_rfl
theorem Try.under22 : Try.prog.underlying 22 = some (.slice 5) := by kernel_rfl
theorem wf_u8 {z : Int} (hz : (Lit.int .u8 z).wf = true) : 0 ≤ z ∧ z < 256 := by
  have h1 : IntKind.u8.min = 0 := rfl
  have h2 : IntKind.u8.max = 255 := rfl
  simp only [Lit.wf, Bool.and_eq_true, decide_eq_true_eq] at hz
  omega
theorem open_byteS {fuel : Nat} {cs : List Value} {x : DataW H × List MemPlace} (h : DataW.trod enc Try.prog W 0 (fun _ => true) true fuel 22 cs = some x) :
    ∃ A n c xs, cs = [.slice A n c] ∧ List.length xs = n ∧ n ≤ 9223372036854775807 ∧ Rd W W.heap.size A (xs.map (Value.int .u8)) ∧ ∀ a ∈ xs, 0 ≤ a ∧ a < 256 :=
  open_oneS (Value.int .u8) _ Try.under22 Try.cells5' (fun fuel v y hy => by
    obtain ⟨z, e, _, wz⟩ := DataW.trod_int Try.under5 hy
    exact ⟨z, by simpa using e, wf_u8 wz⟩) h
end
end Go.Proofs.Ytikleaiflmoffaa
