/- Ruler's lengths, masses, distances of sets, shares of pairs. Plain. -/
import Derived.Test.YtikleaiflmoffaaPlb
namespace Go.Proofs.Ytikleaiflmoffaa
open Ieee Go.RowKit
def cMl : Nat := 4562254508917369340
theorem fx_mul {a b : Int} {i j : Nat} (ha : a.natAbs < 16777216) (hb : b.natAbs < 16777216) (hi : i ≤ 100) (hj : j ≤ 100) (h0 : a * b = 0 → (a < 0 ↔ b < 0)) : floatBits .mul .f32 (fx a i) (fx b j) = some (fx (a * b) (i + j)) := by
  obtain ⟨m, p, h1, _⟩ := fx_read ha hi
  obtain ⟨n, q, h2, _⟩ := fx_read hb hj
  have e1 := (fx_v ha hi).2
  have e2 := (fx_v hb hj).2
  unfold vl at e1 e2
  rw [h1] at e1
  rw [h2] at e2
  obtain ⟨r, hr⟩ : ∃ r, (Datum.number (decide (a < 0)) m p).product (.number (decide (b < 0)) n q) = some r := ⟨_, rfl⟩
  obtain ⟨e3, _⟩ := val_prod ⟨_, _, _, rfl⟩ ⟨_, _, _, rfl⟩ hr
  rw [e1, e2] at e3
  have hf : floatBits .mul .f32 (fx a i) (fx b j) = some (FloatKind.f32.format.write r) := by unfold floatBits Format.mul; dsimp only; rw [h1, h2, hr]; rfl
  unfold Datum.product at hr
  dsimp only at hr
  rw [Option.some.injEq] at hr
  subst hr
  refine fx_of hf ?_ fun hz => ?_
  · rw [e3, Rat.intCast_mul, show -((i + j : Nat) : Int) = -(i : Int) + -(j : Int) from by omega, tw_add]
    grind
  · have := h0 hz
    rw [show decide (a < 0) = decide (b < 0) from by rw [decide_eq_decide]; exact this]
    simp
theorem is64' {x : Nat} (h : (match FloatKind.f64.format.read x with | .number _ _ _ => true | _ => false) = true) : Is .f64 x := by
  unfold Is
  split at h
  · exact ⟨_, _, _, by assumption⟩
  · cases h
theorem int_fx (z : Int) : floatOfInt .f32 z = fx z 0 := rfl
/-- sizes of s quarters, eighths and halves -/
theorem size_v {s : Nat} (h1 : 1 ≤ s) (h2 : s ≤ 8) {k : Nat} (hk : k = 1 ∨ k = 2 ∨ k = 3) : Is .f32 (fx (s : Int) k) ∧ 0 < vl .f32 (fx (s : Int) k) ∧ finB (fx (s : Int) k) = true ∧ gtB (fx (s : Int) k) = true ∧ geF (fx (s : Int) k) 0 = true := by
  obtain ⟨i, v⟩ := fx_v (z := (s : Int)) (k := k) (by omega) (by omega)
  have hs : (0 : Rat) < ((s : Int) : Rat) := Rat.intCast_lt_intCast.2 (show (0 : Int) < (s : Int) by omega)
  have hp : 0 < vl .f32 (fx (s : Int) k) := by rw [v]; exact Rat.mul_pos hs (tw_pos _)
  have hz : vl .f32 0 = 0 := by decide +kernel
  have iz : Is .f32 0 := ⟨_, _, _, rfl⟩
  refine ⟨i, hp, i.fin, ?_, ?_⟩
  · unfold gtB; rw [(order_v i iz).2.1, hz]; exact decide_eq_true hp
  · rw [geF_v i iz, hz]; exact decide_eq_true (Rat.le_of_lt hp)
structure RulLaw (P : List (Int × Int)) (m y : Nat) : Prop where
  mul : floatBits .mul .f32 (floatOfInt .f32 ((rul P y).2 : Int)) y = some (rlM P y)
  add : floatBits .add .f32 (rlM P y) (rest P y) = some (rlL P y)
  is : Is .f32 (rlL P y)
  isl : Is .f32 (lenF P m)
  sum : floatBits .add .f64 (wid (lenF P m)) cMl = some (fop .add .f64 (wid (lenF P m)) cMl)
  gt : (FloatKind.f64.format.order (wid (rlL P y)) (fop .add .f64 (wid (lenF P m)) cMl) == some .gt) = false
theorem rul_law {P : List (Int × Int)} {m s : Nat} (hP : Pts P (m + 1)) (hm : m ≤ 11) (h1 : 1 ≤ s) (h2 : s ≤ 8) : RulLaw P m (fx (s : Int) 2) := by
  obtain ⟨iy, py, _⟩ := size_v h1 h2 (k := 2) (by omega)
  obtain ⟨_, e2, e3, e4, e5, e6, e7⟩ := rul_end hP iy py
  obtain ⟨l1, l2, l3, l4, l5, l6, _⟩ := len_v hP hm m (Nat.le_refl _)
  obtain ⟨_, vy⟩ := fx_v (z := (s : Int)) (k := 2) (by omega) (by omega)
  obtain ⟨st, hst⟩ : ∃ st, st = (rul P (fx (s : Int) 2)).2 := ⟨_, rfl⟩
  have hb : (st : Int) * (s : Int) ≤ 11 * 8 ∧ 0 ≤ (st : Int) * (s : Int) := ⟨by
    have := Nat.mul_le_mul (show st ≤ 11 by omega) h2
    omega, by have := Nat.zero_le (st * s); omega⟩
  have hmul := fx_mul (a := (st : Int)) (b := (s : Int)) (i := 0) (j := 2) (by omega) (by omega) (by omega) (by omega) (fun hz => by constructor <;> intro h <;> omega)
  rw [← int_fx] at hmul
  have hM : rlM P (fx (s : Int) 2) = fx ((st : Int) * (s : Int)) 2 := by unfold rlM; rw [← hst]; exact fop_some hmul
  obtain ⟨iM, vM⟩ := fx_v (z := (st : Int) * (s : Int)) (k := 2) (by omega) (by omega)
  have hMR : vl .f32 (fx ((st : Int) * (s : Int)) 2) = (st : Rat) * vl .f32 (fx (s : Int) 2) := by
    rw [vM, vy, Rat.intCast_mul, Rat.intCast_natCast, Rat.mul_assoc]
  rw [← hst] at e3
  rw [← hMR] at e3
  have hm11 : (m : Rat) ≤ 11 := Rat.natCast_le_natCast.2 hm
  have hm0 : (0 : Rat) ≤ (m : Rat) := Rat.natCast_le_natCast.2 (Nat.zero_le m)
  have hM0 : 0 ≤ vl .f32 (fx ((st : Int) * (s : Int)) 2) := by
    rw [hMR]
    exact Rat.mul_nonneg (Rat.natCast_le_natCast.2 (Nat.zero_le st)) (Rat.le_of_lt py)
  unfold eps at e3
  have hab : ab (vl .f32 (fx ((st : Int) * (s : Int)) 2) + vl .f32 (rest P (fx (s : Int) 2))) ≤ 80 := ab_le (by grind) (by grind)
  have o := add_v iM e5 (by have : (80 : Rat) < tw 100 := by decide +kernel
                            grind)
  have k1 : 80 * tw (-(FloatKind.f32.format.fractionBits + 1 : Int)) + tw (FloatKind.f32.format.leastPlace - 1) ≤ 1 / 100000 := by decide +kernel
  have k2 := mul_up hab (Rat.le_of_lt (tw_pos (-(FloatKind.f32.format.fractionBits + 1 : Int))))
  have hn := o.near
  unfold ulp at hn
  have hnum := o.num
  have hsome := o.some
  have hL : rlL P (fx (s : Int) 2) = fop .add .f32 (fx ((st : Int) * (s : Int)) 2) (rest P (fx (s : Int) 2)) := by unfold rlL; rw [hM]
  rw [← hL] at hn hnum hsome
  have hup : vl .f32 (rlL P (fx (s : Int) 2)) ≤ vl .f32 (lenF P m) + 1 / 2000 := by unfold Near at hn; grind
  obtain ⟨_, wl1, wl2⟩ := wid_v l1
  obtain ⟨_, wr1, wr2⟩ := wid_v hnum
  have ic : Is .f64 cMl := is64' (by decide +kernel)
  have vc : 999 / 1000000 ≤ vl .f64 cMl ∧ vl .f64 cMl ≤ 1001 / 1000000 := by decide +kernel
  have hab2 : ab (vl .f64 (wid (lenF P m)) + vl .f64 cMl) ≤ 100 := by rw [wl2]; exact ab_le (by grind) (by grind)
  have o2 := add_v wl1 ic (by have : (100 : Rat) < tw 100 := by decide +kernel
                              grind)
  have hn2 := o2.near
  unfold ulp at hn2
  have k3 : 100 * tw (-(FloatKind.f64.format.fractionBits + 1 : Int)) + tw (FloatKind.f64.format.leastPlace - 1) ≤ 1 / 100000 := by decide +kernel
  have k4 := mul_up hab2 (Rat.le_of_lt (tw_pos (-(FloatKind.f64.format.fractionBits + 1 : Int))))
  refine ⟨by rw [hM]; rw [← hst]; exact hmul, by rw [hM]; exact hsome, hnum, l1, o2.some, ?_⟩
  rw [(order_v wr1 o2.num).2.1, wr2, decide_eq_false_iff_not]
  unfold Near at hn2
  rw [wl2] at hn2 k4
  grind
end Go.Proofs.Ytikleaiflmoffaa
