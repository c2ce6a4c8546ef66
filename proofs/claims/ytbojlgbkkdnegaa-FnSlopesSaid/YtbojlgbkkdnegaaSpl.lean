/- Spectra and the ratio of gaps of masses that are all the same. -/
import Derived.Test.YtbojlgbkkdnegaaTap
import Derived.Test.YtbojlgbkkdnegaaSpm
namespace Go.Proofs.Ytbojlgbkkdnegaa
open Ieee Go.RowKit
def qpB (n m : Nat) : Bool := (floatBits .quo .f32 (fOf (m : Int)) (fOf ((n * m : Nat) : Int)) == some (pF (n : Int) 1)) && (finB (pF (n : Int) 1) && (gtB (pF (n : Int) 1) && (gapC (List.replicate n (m : Int)) == 1065353216)))
theorem qp_all : ((List.range 10).all fun n => (List.range 9).all fun m => decide (n < 2) || (decide (m < 1) || qpB n m)) = true := by decide +kernel
theorem qp_ok {n m : Nat} (h1 : 2 ≤ n) (h2 : n ≤ 9) (h3 : 1 ≤ m) (h4 : m ≤ 8) : floatBits .quo .f32 (fOf (m : Int)) (fOf ((n * m : Nat) : Int)) = some (pF (n : Int) 1) ∧ finB (pF (n : Int) 1) = true ∧ FloatKind.f32.format.order (pF (n : Int) 1) 0 = some .gt ∧ gapC (List.replicate n (m : Int)) = 1065353216 := by
  have h := all_lt (all_lt qp_all (j := n) (by omega)) (j := m) (by omega)
  rw [decide_eq_false (show ¬ n < 2 by omega), decide_eq_false (show ¬ m < 1 by omega)] at h
  unfold qpB at h
  simp only [Bool.false_or, Bool.and_eq_true, beq_iff_eq] at h
  exact ⟨h.1, h.2.1, gtB_t h.2.2.1, h.2.2.2⟩
theorem rep_sum (n : Nat) (m : Int) : (List.replicate n m).sum = (n : Int) * m := by
  induction n with
  | zero => simp
  | succ n ih => rw [List.replicate_succ, List.sum_cons, ih]; grind
theorem rep_mss {n m : Nat} (h1 : 1 ≤ n) (h3 : 1 ≤ m) (h4 : m ≤ 8) : Mss (List.replicate n (m : Int)) n := by
  refine ⟨by simp, fun z hz => ?_, ?_⟩
  · rw [List.eq_of_mem_replicate hz]; omega
  · cases n with
    | zero => omega
    | succ n => simp [List.replicate_succ]; omega
theorem rep_take (T : Int → Nat) {n k : Nat} {m : Int} (hm : m ≠ 0) (hk : k ≤ n) : sumT T ((List.replicate n m).take k) = addN (T m) k := by
  induction k with
  | zero => rfl
  | succ k ih =>
    rw [sumT_take (by simp; omega), ih (by omega)]
    simp [hm, addN]
theorem sp_plain {n m : Nat} {i : Int} (h1 : 2 ≤ n) (h2 : n ≤ 9) (h3 : 1 ≤ m) (h4 : m ≤ 8) (P : PlOk n i) : SpIn (List.replicate n (m : Int)) (pwF i) (oneP i) (fun _ => plT n i) (plR n i) := by
  have M := rep_mss (n := n) (m := m) (by omega) h3 h4
  obtain ⟨q1, q2, q3, _⟩ := qp_ok h1 h2 h3 h4
  have hs : (List.replicate n (m : Int)).sum = ((n * m : Nat) : Int) := by rw [rep_sum, Int.natCast_mul]
  have hp : pF ((n * m : Nat) : Int) (m : Int) = pF (n : Int) 1 := fop_some q1
  have hm0 : (m : Int) ≠ 0 := by omega
  have hall : sumT (fun _ => plT n i) (List.replicate n (m : Int)) = addN (plT n i) n := by
    have h := rep_take (fun _ => plT n i) (n := n) (k := n) hm0 (Nat.le_refl _)
    rwa [List.take_of_length_le (by simp)] at h
  refine ⟨M.mass (by omega) h2, M.all, by simp; omega, P.fin, rfl, fun z hz _ => ?_, fun z hz _ => ?_, fun k hk h0 => ?_, ?_⟩
  · rw [List.eq_of_mem_replicate hz, hs, hp]
    exact ⟨q1, q2, q3⟩
  · rw [List.eq_of_mem_replicate hz, hs, hp]
    exact P.term
  · rw [rep_take _ hm0 (by simp at hk; omega)]
    exact P.add k (by simpa using hk)
  · rw [hall]
    rcases P.res with ⟨a, b⟩ | ⟨a, pm, b, c, d, e⟩
    · exact .inl ⟨a, b, fin_num P.rfin⟩
    · exact .inr ⟨a, pm, b, c, d, e, fin_num P.rfin⟩
theorem gap_plain {n m : Nat} (h1 : 2 ≤ n) (h2 : n ≤ 9) (h3 : 1 ≤ m) (h4 : m ≤ 8) : gapC (List.replicate n (m : Int)) = 1065353216 ∧ massB (List.replicate n (m : Int)) = true :=
  ⟨(qp_ok h1 h2 h3 h4).2.2.2, (rep_mss (by omega) h3 h4).mass (by omega) h2⟩
theorem one_near : NearG (wid 1065353216) 4607182418800017408 cMl := nearG_of (by decide +kernel)
/-- a quarter is near itself -/
theorem qF_near {z : Int} (h1 : -8 ≤ z) (h2 : z ≤ 8) : NearG (wid (qF z)) (wid (qF z)) cMl := by
  have h := all_lt (p := fun j => nearB (wid (qF ((j : Int) - 8))) (wid (qF ((j : Int) - 8))) cMl) (n := 17) (by decide +kernel) (j := (z + 8).toNat) (by omega)
  rw [show (((z + 8).toNat : Nat) : Int) - 8 = z by omega] at h
  exact nearG_of h
end Go.Proofs.Ytbojlgbkkdnegaa
