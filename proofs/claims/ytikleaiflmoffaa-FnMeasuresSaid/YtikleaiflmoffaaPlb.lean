/- A ruler's walk is no longer than the line, nearly; what is left is shorter than the ruler. Plain. -/
import Derived.Test.YtikleaiflmoffaaPla
namespace Go.Proofs.Ytikleaiflmoffaa
open Ieee
def eps : Rat := 1 / 30000
theorem far_v {p q : Int × Int} (hp : Pt p) (hq : Pt q) : Is .f32 (farF p q) ∧ 0 ≤ vl .f32 (farF p q) ∧ vl .f32 (farF p q) ≤ 6 := by
  have A := far_ok hp hq
  refine ⟨A.is, A.ge, ?_⟩
  have h := A.hi
  have hd : ((dst p q : Nat) : Rat) ≤ 2048 := Rat.natCast_le_natCast.2 (dst_le hp hq)
  unfold farF
  refine le_of_sq (by decide +kernel) ?_
  generalize vl .f32 (lgD (dst p q)) = a at *
  grind
theorem tri2 {p q u : Int × Int} (hp : Pt p) (hq : Pt q) (hu : Pt u) : vl .f32 (farF p u) ≤ vl .f32 (farF p q) + vl .f32 (farF q u) + eps := by
  have h := tri hp hq hu
  have a := far_v hp hq
  have b := far_v hq hu
  unfold eps
  grind
/-- the exact sum of a line's first k steps -/
def lenR (P : List (Int × Int)) : Nat → Rat
  | 0 => 0
  | k + 1 => lenR P k + vl .f32 (farF (P.getD (k + 1) (0, 0)) (P.getD k (0, 0)))
theorem tail_get {P : List (Int × Int)} {k : Nat} (h : k < P.tail.length) : P.tail[k] = P.getD (k + 1) (0, 0) := by
  have h2 : k + 1 < P.length := by simp at h; omega
  simp [List.getD, List.getElem?_eq_getElem h2]
theorem geF_v {x r : Nat} (hx : Is .f32 x) (hr : Is .f32 r) : geF x r = decide (vl .f32 r ≤ vl .f32 x) := by
  unfold geF
  rw [(order_v hx hr).2.1, (order_v hx hr).2.2]
  rw [Bool.eq_iff_iff, Bool.or_eq_true, decide_eq_true_eq, decide_eq_true_eq, decide_eq_true_eq]
  constructor
  · rintro (h | h) <;> grind
  · intro h
    rcases (show vl .f32 r < vl .f32 x ∨ vl .f32 x = vl .f32 r by grind) with h | h
    · exact .inl h
    · exact .inr h
theorem leF_v {x r : Nat} (hx : Is .f32 x) (hr : Is .f32 r) : leF x r = decide (vl .f32 x ≤ vl .f32 r) := by
  unfold leF
  rw [(order_v hx hr).1, (order_v hx hr).2.2]
  rw [Bool.eq_iff_iff, Bool.or_eq_true, decide_eq_true_eq, decide_eq_true_eq, decide_eq_true_eq]
  constructor
  · rintro (h | h) <;> grind
  · intro h
    rcases (show vl .f32 x < vl .f32 r ∨ vl .f32 x = vl .f32 r by grind) with h | h
    · exact .inl h
    · exact .inr h
theorem ltF_v {x r : Nat} (hx : Is .f32 x) (hr : Is .f32 r) : ltF x r = decide (vl .f32 x < vl .f32 r) := (order_v hx hr).1
theorem far0_v (p : Int × Int) : vl .f32 (farF p p) = 0 := by rw [far_self]; decide +kernel
/-- the walk so far, and what is left of it -/
theorem rul_inv {P : List (Int × Int)} {m r : Nat} (hP : Pts P (m + 1)) (hr : Is .f32 r) (h0 : 0 < vl .f32 r) : ∀ k, k ≤ m → 
    Pt ((P.tail.take k).foldl (rlS r) (P.getD 0 (0, 0), 0)).1 ∧ ((P.tail.take k).foldl (rlS r) (P.getD 0 (0, 0), 0)).2 ≤ k ∧
    (((P.tail.take k).foldl (rlS r) (P.getD 0 (0, 0), 0)).2 : Rat) * vl .f32 r + vl .f32 (farF (P.getD k (0, 0)) ((P.tail.take k).foldl (rlS r) (P.getD 0 (0, 0), 0)).1) ≤ lenR P k + (k : Rat) * eps ∧
    vl .f32 (farF (P.getD k (0, 0)) ((P.tail.take k).foldl (rlS r) (P.getD 0 (0, 0), 0)).1) < vl .f32 r := by
  intro k
  induction k with
  | zero =>
    intro _
    refine ⟨(getD_pt hP (by omega)).1, Nat.le_refl _, ?_, ?_⟩
    · show ((0 : Nat) : Rat) * _ + vl .f32 (farF (P.getD 0 (0, 0)) (P.getD 0 (0, 0))) ≤ 0 + ((0 : Nat) : Rat) * eps
      rw [far0_v]
      have : ((0 : Nat) : Rat) = 0 := rfl
      rw [this]
      grind
    · show vl .f32 (farF (P.getD 0 (0, 0)) (P.getD 0 (0, 0))) < _
      rw [far0_v]; exact h0
  | succ k ih =>
    intro hk
    obtain ⟨i1, i2, i3, i4⟩ := ih (by omega)
    have hkt : k < P.tail.length := by rw [List.length_tail, hP.len]; omega
    rw [foldC_take (g := rlS r) hkt, tail_get hkt]
    have hq := (getD_pt hP (k := k + 1) (by omega)).1
    have hp := (getD_pt hP (k := k) (by omega)).1
    generalize (P.tail.take k).foldl (rlS r) (P.getD 0 (0, 0), 0) = sA at *
    obtain ⟨at_, st⟩ := sA
    dsimp only at i1 i2 i3 i4
    have ht := tri2 hq hp i1
    have hv := far_v hq i1
    have hl : lenR P (k + 1) = lenR P k + vl .f32 (farF (P.getD (k + 1) (0, 0)) (P.getD k (0, 0))) := rfl
    have ek : ((k + 1 : Nat) : Rat) = (k : Rat) + 1 := by rw [Rat.natCast_add]; rfl
    have es : ((st + 1 : Nat) : Rat) = (st : Rat) + 1 := by rw [Rat.natCast_add]; rfl
    unfold rlS
    dsimp only
    rw [geF_v hv.1 hr]
    by_cases hge : vl .f32 r ≤ vl .f32 (farF (P.getD (k + 1) (0, 0)) at_)
    · rw [decide_eq_true hge, if_pos rfl]
      dsimp only
      refine ⟨hq, by omega, ?_, by rw [far0_v]; exact h0⟩
      rw [far0_v, hl, ek, es]
      grind
    · rw [decide_eq_false hge, if_neg (by decide)]
      dsimp only
      refine ⟨i1, by omega, ?_, by grind⟩
      rw [hl, ek]
      grind
theorem rul_end {P : List (Int × Int)} {m r : Nat} (hP : Pts P (m + 1)) (hr : Is .f32 r) (h0 : 0 < vl .f32 r) : Pt (rul P r).1 ∧ (rul P r).2 ≤ m ∧ ((rul P r).2 : Rat) * vl .f32 r + vl .f32 (rest P r) ≤ lenR P m + (m : Rat) * eps ∧ vl .f32 (rest P r) < vl .f32 r ∧ Is .f32 (rest P r) ∧ 0 ≤ vl .f32 (rest P r) ∧ vl .f32 (rest P r) ≤ 6 := by
  obtain ⟨i1, i2, i3, i4⟩ := rul_inv hP hr h0 m (Nat.le_refl _)
  have hT : P.tail.take m = P.tail := List.take_of_length_le (by rw [List.length_tail, hP.len]; exact Nat.le_refl _)
  rw [hT] at i1 i2 i3 i4
  have hL : P.length - 1 = m := by rw [hP.len]; rfl
  have hv := far_v (getD_pt hP (k := m) (by omega)).1 i1
  unfold rest
  rw [hL]
  exact ⟨i1, i2, i3, i4, hv⟩
/-- the sum of floats is near the exact one -/
theorem len_v {P : List (Int × Int)} {m : Nat} (hP : Pts P (m + 1)) (hm : m ≤ 11) : ∀ k, k ≤ m → Is .f32 (lenF P k) ∧ 0 ≤ vl .f32 (lenF P k) ∧ 0 ≤ lenR P k ∧ lenR P k ≤ 6 * (k : Rat) ∧ lenR P k ≤ vl .f32 (lenF P k) + (k : Rat) * (1 / 100000) ∧ vl .f32 (lenF P k) ≤ 7 * (k : Rat) ∧ (∀ j, j < k → floatBits .add .f32 (lenF P j) (farF (P.getD (j + 1) (0, 0)) (P.getD j (0, 0))) = some (lenF P (j + 1))) := by
  intro k
  induction k with
  | zero =>
    intro _
    have hz : vl .f32 (lenF P 0) = 0 := by show vl .f32 0 = 0; decide +kernel
    have hr : lenR P 0 = 0 := rfl
    refine ⟨⟨_, _, _, rfl⟩, by rw [hz]; exact Rat.le_refl, by rw [hr]; exact Rat.le_refl, ?_, ?_, ?_, fun j hj => by omega⟩
    · rw [hr]; show (0 : Rat) ≤ 6 * ((0 : Nat) : Rat); decide +kernel
    · rw [hr, hz]; show (0 : Rat) ≤ 0 + ((0 : Nat) : Rat) * _; have : ((0 : Nat) : Rat) = 0 := rfl; rw [this]; grind
    · rw [hz]; show (0 : Rat) ≤ 7 * ((0 : Nat) : Rat); decide +kernel
  | succ k ih =>
    intro hk
    obtain ⟨i1, i2, i3, i4, i5, i6, i7⟩ := ih (by omega)
    have hv := far_v (getD_pt hP (k := k + 1) (by omega)).1 (getD_pt hP (k := k) (by omega)).1
    have hk11 : (k : Rat) ≤ 10 := Rat.natCast_le_natCast.2 (show k ≤ 10 by omega)
    have hk0 : (0 : Rat) ≤ (k : Rat) := Rat.natCast_le_natCast.2 (Nat.zero_le k)
    have ek : ((k + 1 : Nat) : Rat) = (k : Rat) + 1 := by rw [Rat.natCast_add]; rfl
    have hl : lenR P (k + 1) = lenR P k + vl .f32 (farF (P.getD (k + 1) (0, 0)) (P.getD k (0, 0))) := rfl
    have hf : lenF P (k + 1) = fop .add .f32 (lenF P k) (farF (P.getD (k + 1) (0, 0)) (P.getD k (0, 0))) := rfl
    have hab : ab (vl .f32 (lenF P k) + vl .f32 (farF (P.getD (k + 1) (0, 0)) (P.getD k (0, 0)))) ≤ 80 := ab_le (by grind) (by grind)
    have o := add_v i1 hv.1 (by have : (80 : Rat) < tw 100 := by decide +kernel
                                grind)
    have k1 : 80 * tw (-(FloatKind.f32.format.fractionBits + 1 : Int)) + tw (FloatKind.f32.format.leastPlace - 1) ≤ 1 / 100000 := by decide +kernel
    have k2 := mul_up hab (Rat.le_of_lt (tw_pos (-(FloatKind.f32.format.fractionBits + 1 : Int))))
    have hn := o.near
    unfold ulp at hn
    have hnn := o.nn (by grind)
    rw [← hf] at hn hnn
    have hi := o.num
    have hs := o.some
    rw [← hf] at hi hs
    rw [hl, ek]
    unfold Near at hn
    refine ⟨hi, hnn, by grind, by grind, by grind, by grind, fun j hj => ?_⟩
    by_cases h : j = k
    · subst h; exact hs
    · exact i7 j (by omega)
end Go.Proofs.Ytikleaiflmoffaa
