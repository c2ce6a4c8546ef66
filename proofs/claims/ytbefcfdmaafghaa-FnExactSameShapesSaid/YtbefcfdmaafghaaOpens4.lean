/- How the arguments of the laws are read: a row of shapes. -/
import Derived.Test.YtbefcfdmaafghaaOpens2
import Derived.Test.YtbefcfdmaafghaaShapes
namespace Go.Proofs.Ytbefcfdmaafghaa
open Go.ChangeShapes Go.WideShapes Go.ChangeAt Go.RowKit Go.Deep Go.Joins
instance : Inhabited Sh := ⟨⟨ByteArray.empty, 0, 0, [], none, 0⟩⟩
section
variable {H : Type} {enc : TypeId × Value → H} {W : World}
theorem open_shapeS {fuel : Nat} {cs : List Value} {x : DataW H × List MemPlace} (h : DataW.trod enc Try.prog W 0 (fun _ => true) true fuel 60 cs = some x) :
    ∃ A n c ss, cs = [.slice A n c] ∧ List.length ss = n ∧ n ≤ 9223372036854775807 ∧ RdS W W.heap.size A ss := by
  rcases open_slice Try.underlying60 h with ⟨rfl, _⟩ | ⟨a, len, cap, m, n, D, Pl, rfl, hb, hl, hm, hmm, _, hx⟩
  · exact ⟨none, 0, 0, [], rfl, rfl, by omega, .inl rfl, by simp⟩
  · simp only [if_true] at hmm
    subst hmm
    unfold maxLen at hm
    have key : ∀ i, i < m → ∃ s : Sh, (∀ j u, s.cells[j]? = some u → W.cell? (a.add (i * 4 + j)) = some u) ∧ Rd W W.heap.size s.A (s.bs.map Value.bool) ∧ s.nm.size ≤ 9223372036854775807 ∧ s.bs.length ≤ 9223372036854775807 := by
      intro i hi
      obtain ⟨cs', hc, ht⟩ := hx i hi
      rw [Try.cells48] at hc
      obtain ⟨_, hcl, hat⟩ := World.cells?_some hc
      obtain ⟨c0, c1, c2, c3, rfl⟩ : ∃ c0 c1 c2 c3, cs' = [c0, c1, c2, c3] := by
        match cs', hcl with
        | [c0, c1, c2, c3], _ => exact ⟨c0, c1, c2, c3, rfl⟩
      obtain ⟨nm, wd, hg, A, n', c, bs, rfl, rfl, rfl, rfl, h1, _, _, h2, h3, h4⟩ := open_shapeC ht
      refine ⟨⟨nm, wd, hg, bs, A, c⟩, fun j u hu => ?_, h4, h1, by rw [h2]; exact h3⟩
      have hj : j < 4 := by
        have := (List.getElem?_eq_some_iff.1 hu).1
        simpa [Sh.cells] using this
      have := hat j hj
      rw [← Go.Deep.add_add, this]
      rw [h2.symm]
      exact hu
    obtain ⟨g, hg⟩ := choose_lt (α := Sh) (p := fun i s => (∀ j u, s.cells[j]? = some u → W.cell? (a.add (i * 4 + j)) = some u) ∧ Rd W W.heap.size s.A (s.bs.map Value.bool) ∧ s.nm.size ≤ 9223372036854775807 ∧ s.bs.length ≤ 9223372036854775807) key
    refine ⟨some a, len, m, (List.range len).map g, rfl, by simp, by omega, ?_, ?_⟩
    · by_cases h0 : len = 0
      · left; subst h0; rfl
      · right
        have hc0 := (hg 0 (by omega)).1 0 _ rfl
        have hblk := World.block_lt_of_cell? W _ hc0
        rw [Nat.zero_mul, Nat.zero_add] at hblk
        have hab : (a.add 0).block = a.block := by unfold Addr.add; simp
        rw [hab] at hblk
        refine ⟨a, rfl, hblk, fun j s i u hs hu => ?_⟩
        rw [List.getElem?_map] at hs
        by_cases hj : j < len
        · rw [List.getElem?_range hj] at hs
          simp at hs
          subst hs
          exact (hg j (by omega)).1 i u hu
        · rw [List.getElem?_eq_none (by simp; omega)] at hs
          simp at hs
    · intro s hs
      simp at hs
      obtain ⟨j, hj, rfl⟩ := hs
      exact (hg j (by omega)).2
end
end Go.Proofs.Ytbefcfdmaafghaa
