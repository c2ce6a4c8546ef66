/- What the law on walks asks of ranks, of seeds, of the least and the greatest. -/
import Derived.Test.YtbojlgbkkdnegaaTailV
import Derived.Test.YtbojlgbkkdnegaaRa
namespace Go.Proofs.Ytbojlgbkkdnegaa
open Ieee Go.RowKit Go.Lib Go.Sort
theorem getD_mem {xs : List Nat} {i : Nat} (h : i < xs.length) : xs.getD i 0 ∈ xs := by
  have e : xs.getD i 0 = xs[i] := by simp [List.getD, List.getElem?_eq_getElem h]
  rw [e]
  exact List.getElem_mem h
/-- two places one after another -/
structure RankAt (xs rs : List Nat) (k : Nat) : Prop where
  lt1 : rs.getD (k + 1) 0 < xs.length
  lt0 : rs.getD k 0 < xs.length
  ord : (FloatKind.f32.format.order (xs.getD (rs.getD (k + 1) 0) 0) (xs.getD (rs.getD k 0) 0) == some .gt) = false ∧
    ((FloatKind.f32.format.order (xs.getD (rs.getD (k + 1) 0) 0) (xs.getD (rs.getD k 0) 0) == some .eq) = true → rs.getD k 0 < rs.getD (k + 1) 0)
theorem rank_at {xs : List Nat} (h : ∀ x ∈ xs, Is .f32 x) {k : Nat} (hk : k + 1 < xs.length) : RankAt xs (rankL xs) k := by
  obtain ⟨hp, hw⟩ := rank_spec xs
  have hl : (rankL xs).length = xs.length := by rw [hp.length_eq]; simp
  have h1 : k + 1 < (rankL xs).length := by omega
  have h0 : k < (rankL xs).length := by omega
  have m1 : (rankL xs)[k + 1] < xs.length := List.mem_range.1 (hp.mem_iff.1 (List.getElem_mem h1))
  have m0 : (rankL xs)[k] < xs.length := List.mem_range.1 (hp.mem_iff.1 (List.getElem_mem h0))
  have e1 : (rankL xs).getD (k + 1) 0 = (rankL xs)[k + 1] := by simp [List.getD, List.getElem?_eq_getElem h1]
  have e0 : (rankL xs).getD k 0 = (rankL xs)[k] := by simp [List.getD, List.getElem?_eq_getElem h0]
  have hlt := pair_get hw h0 h1 (by omega)
  rw [← e0, ← e1] at hlt
  rw [← e1] at m1
  rw [← e0] at m0
  have i1 : Is .f32 (xs.getD ((rankL xs).getD (k + 1) 0) 0) := h _ (getD_mem m1)
  have i0 : Is .f32 (xs.getD ((rankL xs).getD k 0) 0) := h _ (getD_mem m0)
  unfold ltD keyAt at hlt
  refine ⟨m1, m0, ?_, fun he => ?_⟩
  · rw [cmpN_gt i1.fin i0.fin, decide_eq_false_iff_not]
    omega
  · rw [order_key i1.fin i0.fin] at he
    have : compare (keyF (xs.getD ((rankL xs).getD (k + 1) 0) 0)) (keyF (xs.getD ((rankL xs).getD k 0) 0)) = .eq := by simpa using he
    rw [Int.compare_eq_eq] at this
    omega
/-- the seed does not come back -/
theorem seed_ne {z : Int} (h1 : 0 ≤ z) (h2 : z < 256) {n : Nat} (h3 : 3 ≤ n) (h4 : n ≤ 22) : nS (z * 7919 + 3) n ≠ z * 7919 + 3 := by
  have h := all_lt (p := fun j => (List.range 23).all fun n => decide (3 ≤ n → nS ((j : Int) * 7919 + 3) n ≠ (j : Int) * 7919 + 3)) (n := 256) (by decide +kernel) (j := z.toNat) (by omega)
  have h5 := all_lt h (j := n) (by omega)
  rw [show ((z.toNat : Nat) : Int) = z from by omega] at h5
  exact (of_decide_eq_true h5) h3
theorem run_min_f {P : Program} {k : FloatKind} {x y : Nat} (hx : Is k x) (hy : Is k y) : ∀ (ts : Array TypeId) (t : TypeId) (w : World), (Builtin.min_ ts t #[.float k x, .float k y]).run P w = .ok (.float k (fmin k x y)) w := by
  intro ts t w
  obtain ⟨s, m, p, h1⟩ := hx
  obtain ⟨t', n, q, h2⟩ := hy
  obtain ⟨o, ho⟩ : ∃ o, k.format.order x y = some o := ⟨_, by unfold Format.order; rw [h1, h2]; rfl⟩
  unfold fmin
  cases o <;> simp [Builtin.min_, Builtin.min2, ho]
theorem fmin_v {k : FloatKind} {x y : Nat} (hx : Is k x) (hy : Is k y) : Is k (fmin k x y) ∧ vl k (fmin k x y) ≤ vl k x ∧ vl k (fmin k x y) ≤ vl k y ∧ (vl k (fmin k x y) = vl k x ∨ vl k (fmin k x y) = vl k y) := by
  obtain ⟨o1, o2, o3⟩ := order_v hx hy
  obtain ⟨s, m, p, h1⟩ := hx
  obtain ⟨t, n, q, h2⟩ := hy
  obtain ⟨o, ho⟩ : ∃ o, k.format.order x y = some o := ⟨_, by unfold Format.order; rw [h1, h2]; rfl⟩
  rw [ho] at o1 o2 o3
  unfold fmin
  rw [ho]
  cases o
  · have h3 : vl k x < vl k y := by simpa using o1.symm
    dsimp only
    exact ⟨⟨_, _, _, h1⟩, by grind, by grind, .inl rfl⟩
  · have h3 : vl k x = vl k y := by simpa using o3.symm
    dsimp only
    split
    · exact ⟨⟨_, _, _, h1⟩, by grind, by grind, .inl rfl⟩
    · exact ⟨⟨_, _, _, h2⟩, by grind, by grind, .inr rfl⟩
  · have h3 : vl k y < vl k x := by simpa using o2.symm
    dsimp only
    exact ⟨⟨_, _, _, h2⟩, by grind, by grind, .inr rfl⟩
/-- the least and the greatest of the first k + 1 -/
def minL (xs : List Nat) : Nat → Nat
  | 0 => xs.getD 0 0
  | k + 1 => fmin .f32 (minL xs k) (xs.getD (k + 1) 0)
def maxL (xs : List Nat) : Nat → Nat
  | 0 => xs.getD 0 0
  | k + 1 => fmax .f32 (maxL xs k) (xs.getD (k + 1) 0)
theorem min_v {xs : List Nat} (h : ∀ i, i < xs.length → Is .f32 (xs.getD i 0)) : ∀ k, k < xs.length → Is .f32 (minL xs k) ∧ (∀ i, i ≤ k → vl .f32 (minL xs k) ≤ vl .f32 (xs.getD i 0)) ∧ ∃ i, i ≤ k ∧ vl .f32 (minL xs k) = vl .f32 (xs.getD i 0) := by
  intro k
  induction k with
  | zero =>
    intro h0
    refine ⟨h 0 h0, fun i hi => ?_, 0, Nat.le_refl 0, rfl⟩
    obtain rfl : i = 0 := by omega
    exact Rat.le_refl
  | succ k ih =>
    intro hk
    obtain ⟨a1, a2, j, hj, a3⟩ := ih (by omega)
    obtain ⟨f1, f2, f3, f4⟩ := fmin_v a1 (h (k + 1) hk)
    refine ⟨f1, fun i hi => ?_, ?_⟩
    · show vl .f32 (fmin .f32 _ _) ≤ _
      by_cases hik : i ≤ k
      · have := a2 i hik; grind
      · obtain rfl : i = k + 1 := by omega
        exact f3
    · rcases f4 with f4 | f4
      · exact ⟨j, by omega, by show vl .f32 (fmin .f32 _ _) = _; rw [f4, a3]⟩
      · exact ⟨k + 1, Nat.le_refl _, f4⟩
theorem max_v {xs : List Nat} (h : ∀ i, i < xs.length → Is .f32 (xs.getD i 0)) : ∀ k, k < xs.length → Is .f32 (maxL xs k) ∧ (∀ i, i ≤ k → vl .f32 (xs.getD i 0) ≤ vl .f32 (maxL xs k)) ∧ ∃ i, i ≤ k ∧ vl .f32 (maxL xs k) = vl .f32 (xs.getD i 0) := by
  intro k
  induction k with
  | zero =>
    intro h0
    refine ⟨h 0 h0, fun i hi => ?_, 0, Nat.le_refl 0, rfl⟩
    obtain rfl : i = 0 := by omega
    exact Rat.le_refl
  | succ k ih =>
    intro hk
    obtain ⟨a1, a2, j, hj, a3⟩ := ih (by omega)
    obtain ⟨f1, f2, f3, f4⟩ := fmax_v a1 (h (k + 1) hk)
    refine ⟨f1, fun i hi => ?_, ?_⟩
    · show _ ≤ vl .f32 (fmax .f32 _ _)
      by_cases hik : i ≤ k
      · have := a2 i hik; grind
      · obtain rfl : i = k + 1 := by omega
        exact f3
    · rcases f4 with f4 | f4
      · exact ⟨j, by omega, by show vl .f32 (fmax .f32 _ _) = _; rw [f4, a3]⟩
      · exact ⟨k + 1, Nat.le_refl _, f4⟩
/-- what the law asks of a tail at last -/
theorem tail_law {ts : List Nat} (S : Six ts) : tailB (ts.map wz) 5 = (FloatKind.f32.format.order (maxL (ts.map wz) 5) (minL (ts.map wz) 5) == some .gt) ∧ (tailB (ts.map wz) 5 = true → (FloatKind.f32.format.order (tailR (ts.map wz) 5) 0 == some .gt) = true) := by
  have hl : (ts.map wz).length = 6 := by rw [List.length_map, S.len]
  have hget : ∀ i, i < (ts.map wz).length → Is .f32 ((ts.map wz).getD i 0) ∧ vl .f32 ((ts.map wz).getD i 0) = (ts.getD i 0 : Rat) := by
    intro i hi
    obtain ⟨g1, g2, g3, g4⟩ := S.get (i := i) (by omega)
    rw [g4]
    exact wz_v g1 g2
  obtain ⟨a1, a2, ja, hja, a3⟩ := max_v (fun i hi => (hget i hi).1) 5 (by omega)
  obtain ⟨b1, b2, jb, hjb, b3⟩ := min_v (fun i hi => (hget i hi).1) 5 (by omega)
  rw [(order_v a1 b1).2.1]
  by_cases h : ∀ a ∈ ts, ∀ b ∈ ts, a = b
  · obtain ⟨t1, t2⟩ := tail_same S h
    rw [t1]
    refine ⟨?_, fun h => by cases h⟩
    symm
    rw [decide_eq_false_iff_not, a3, b3, (hget ja (by omega)).2, (hget jb (by omega)).2, h _ (S.get (i := ja) (by omega)).2.2.1 _ (S.get (i := jb) (by omega)).2.2.1]
    grind
  · obtain ⟨t1, t2, t3⟩ := tail_diff S h
    rw [t1]
    refine ⟨?_, fun _ => ?_⟩
    · symm
      rw [decide_eq_true_eq]
      apply Classical.byContradiction
      intro hn
      apply h
      have key : ∀ i, i < 6 → ∀ j, j < 6 → ts.getD i 0 ≤ ts.getD j 0 := by
        intro i hi j hj
        have c1 := a2 i (by omega)
        have c2 := b2 j (by omega)
        rw [(hget i (by omega)).2] at c1
        rw [(hget j (by omega)).2] at c2
        exact Rat.natCast_le_natCast.1 (by grind)
      intro a ha b hb
      obtain ⟨i, hi, rfl⟩ := List.getElem_of_mem ha
      obtain ⟨j, hj, rfl⟩ := List.getElem_of_mem hb
      have hi6 : i < 6 := by rw [← S.len]; exact hi
      have hj6 : j < 6 := by rw [← S.len]; exact hj
      have k1 := key i hi6 j hj6
      have k2 := key j hj6 i hi6
      have ei : ts.getD i 0 = ts[i] := by simp [List.getD, List.getElem?_eq_getElem hi]
      have ej : ts.getD j 0 = ts[j] := by simp [List.getD, List.getElem?_eq_getElem hj]
      omega
    · rw [(order_v t2 zero_is.1).2.1, zero_is.2, decide_eq_true_eq]
      exact t3
end Go.Proofs.Ytbojlgbkkdnegaa
