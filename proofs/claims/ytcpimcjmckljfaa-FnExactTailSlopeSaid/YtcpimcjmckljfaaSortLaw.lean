/- Places in sorted lists. No program in this text. -/
import Derived.Test.YtcpimcjmckljfaaSort
namespace Go.Proofs.Ytcpimcjmckljfaa
section
variable {α : Type} {lt : α → α → Prop}
theorem lo_upto (tr : ∀ x y z, lt x y → lt y z → lt x z) {R : List α} (hR : R.Pairwise lt) {y : α} {k : Nat} (hk : k < R.length) (h : lt R[k] y) : ∀ (k' : Nat) (h' : k' < R.length), k' ≤ k → lt R[k'] y := by
  intro k' h' hle
  rcases pair_le hR h' hk hle with e | e
  · rw [e]; exact h
  · exact tr _ _ _ e h
theorem hi_from (tr : ∀ x y z, lt x y → lt y z → lt x z) {R : List α} (hR : R.Pairwise lt) {y : α} {k : Nat} (hk : k < R.length) (h : lt y R[k]) : ∀ (k' : Nat) (h' : k' < R.length), k ≤ k' → lt y R[k'] := by
  intro k' h' hle
  rcases pair_le hR hk h' hle with e | e
  · rw [← e]; exact h
  · exact tr _ _ _ h e
theorem take_all {R : List α} {p : α → Prop} {k : Nat} (h : ∀ (k' : Nat) (h' : k' < R.length), k' < k → p R[k']) : ∀ z ∈ R.take k, p z := by
  intro z hz
  obtain ⟨i, hi, rfl⟩ := List.getElem_of_mem hz
  rw [List.length_take] at hi
  rw [List.getElem_take]
  exact h i (by omega) (by omega)
theorem drop_all {R : List α} {p : α → Prop} {k : Nat} (h : ∀ (k' : Nat) (h' : k' < R.length), k ≤ k' → p R[k']) : ∀ z ∈ R.drop k, p z := by
  intro z hz
  obtain ⟨i, hi, rfl⟩ := List.getElem_of_mem hz
  rw [List.length_drop] at hi
  rw [List.getElem_drop]
  exact h (k + i) (by omega) (by omega)
theorem split_at {R : List α} {k : Nat} (h : k < R.length) : ∃ A C, R = A ++ R[k] :: C ∧ A.length = k := by
  refine ⟨R.take k, R.drop (k + 1), ?_, by rw [List.length_take]; omega⟩
  rw [← List.drop_eq_getElem_cons h, List.take_append_drop]
theorem merged_left {y : α} {R : List α} {k : Nat} (hR : R.Pairwise lt) (h1 : ∀ z ∈ R.take k, lt z y) (h2 : ∀ z ∈ R.drop k, lt y z) : Merged lt [y] R (R.take k ++ y :: R.drop k) := by
  refine ⟨?_, put_in (by rw [List.take_append_drop]; exact hR) h1 h2⟩
  refine put_perm.trans ?_
  rw [List.take_append_drop]
  exact .refl _
theorem merged_right {x : α} {L : List α} {k : Nat} (hL : L.Pairwise lt) (h1 : ∀ z ∈ L.take k, lt z x) (h2 : ∀ z ∈ L.drop k, lt x z) : Merged lt L [x] (L.take k ++ x :: L.drop k) := by
  refine ⟨?_, put_in (by rw [List.take_append_drop]; exact hL) h1 h2⟩
  refine put_perm.trans ?_
  rw [List.take_append_drop]
  exact (List.perm_append_singleton x L).symm
end
end Go.Proofs.Ytcpimcjmckljfaa
