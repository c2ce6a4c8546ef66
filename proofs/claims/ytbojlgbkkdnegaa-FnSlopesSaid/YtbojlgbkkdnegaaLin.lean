/- The line that is nearest to points of a line is that line. -/
import Derived.Test.YtbojlgbkkdnegaaDoubt
import Derived.Test.YtbojlgbkkdnegaaRo
namespace Go.Proofs.Ytbojlgbkkdnegaa
open Ieee Go.RowKit
theorem fx_mul {a b : Int} {i j : Nat} (ha : a.natAbs < 16777216) (hb : b.natAbs < 16777216) (hi : i ≤ 100) (hj : j ≤ 100) (h0 : a * b = 0 → (a < 0 ↔ b < 0)) : floatBits .mul .f32 (fx a i) (fx b j) = some (fx (a * b) (i + j)) := by
  obtain ⟨m, p, h1, _⟩ := fx_read ha hi
  obtain ⟨n, q, h2, _⟩ := fx_read hb hj
  have e1 := (fx_v ha hi).2
  have e2 := (fx_v hb hj).2
  unfold vl at e1 e2
  rw [h1] at e1
  rw [h2] at e2
  obtain ⟨r, hr⟩ : ∃ r, (Datum.number (decide (a < 0)) m p).product (.number (decide (b < 0)) n q) = some r := ⟨_, rfl⟩
  obtain ⟨e3, _⟩ := val_prod ⟨_, _, _, rfl⟩ ⟨_, _, _, rfl⟩ hr
  rw [e1, e2] at e3
  have hf : floatBits .mul .f32 (fx a i) (fx b j) = some (FloatKind.f32.format.write r) := by unfold floatBits Format.mul; dsimp only; rw [h1, h2, hr]; rfl
  unfold Datum.product at hr
  dsimp only at hr
  rw [Option.some.injEq] at hr
  subst hr
  refine fx_of hf ?_ fun hz => ?_
  · rw [e3, Rat.intCast_mul, show -((i + j : Nat) : Int) = -(i : Int) + -(j : Int) from by omega, tw_add]
    grind
  · have := h0 hz
    rw [show decide (a < 0) = decide (b < 0) from by rw [decide_eq_decide]; exact this]
    simp
theorem int_fx (z : Int) : floatOfInt .f32 z = fx z 0 := rfl
def lnX (n : Nat) : List Nat := (List.range n).map fun (k : Nat) => floatOfInt .f32 (k : Int)
def lnV (s b : Int) (k : Nat) : Nat := fop .add .f32 (fop .mul .f32 (qF s) (floatOfInt .f32 (k : Int))) (qF b)
def lnY (s b : Int) (n : Nat) : List Nat := (List.range n).map (lnV s b)
theorem lnX_len (n : Nat) : (lnX n).length = n := by simp [lnX]
theorem lnY_len (s b : Int) (n : Nat) : (lnY s b n).length = n := by simp [lnY]
theorem lnX_snoc (n : Nat) : lnX (n + 1) = lnX n ++ [floatOfInt .f32 (n : Int)] := by simp [lnX, List.range_succ]
theorem lnY_snoc (s b : Int) (n : Nat) : lnY s b (n + 1) = lnY s b n ++ [lnV s b n] := by simp [lnY, List.range_succ]
/-- small numbers -/
structure Sm (s b : Int) : Prop where
  s1 : -8 ≤ s
  s2 : s ≤ 8
  b1 : -8 ≤ b
  b2 : b ≤ 8
theorem tab2 {p : Int → Int → Bool} (h : ((List.range 17).all fun i => (List.range 17).all fun j => p ((i : Int) - 8) ((j : Int) - 8)) = true) {s b : Int} (H : Sm s b) : p s b = true := by
  have h1 := all_lt (j := (s + 8).toNat) h (by have := H.s1; have := H.s2; omega)
  have h2 := all_lt (j := (b + 8).toNat) h1 (by have := H.b1; have := H.b2; omega)
  have := H.s1
  have := H.b1
  rwa [show (((s + 8).toNat : Nat) : Int) - 8 = s by omega, show (((b + 8).toNat : Nat) : Int) - 8 = b by omega] at h2
def y0B (s b : Int) : Bool := (floatBits .mul .f32 (qF s) (floatOfInt .f32 0) == some (fop .mul .f32 (qF s) (floatOfInt .f32 0))) && (floatBits .add .f32 (fop .mul .f32 (qF s) (floatOfInt .f32 0)) (qF b) == some (qF b))
theorem y0_ok {s b : Int} (H : Sm s b) : floatBits .mul .f32 (qF s) (floatOfInt .f32 0) = some (fop .mul .f32 (qF s) (floatOfInt .f32 0)) ∧ floatBits .add .f32 (fop .mul .f32 (qF s) (floatOfInt .f32 0)) (qF b) = some (qF b) := by
  have h := tab2 (p := y0B) (by decide +kernel) H
  unfold y0B at h
  simpa using h
theorem sk_bd {s b : Int} {k : Nat} (H : Sm s b) (hk : k ≤ 8) : -64 ≤ s * (k : Int) ∧ s * (k : Int) ≤ 64 := by
  have := H.s1
  have := H.s2
  rcases (show k = 0 ∨ k = 1 ∨ k = 2 ∨ k = 3 ∨ k = 4 ∨ k = 5 ∨ k = 6 ∨ k = 7 ∨ k = 8 by omega) with rfl | rfl | rfl | rfl | rfl | rfl | rfl | rfl | rfl <;> omega
/-- a point of the line -/
theorem y_fx {s b : Int} {k : Nat} (H : Sm s b) (hk : k ≤ 8) : floatBits .mul .f32 (qF s) (floatOfInt .f32 (k : Int)) = some (fop .mul .f32 (qF s) (floatOfInt .f32 (k : Int))) ∧ floatBits .add .f32 (fop .mul .f32 (qF s) (floatOfInt .f32 (k : Int))) (qF b) = some (lnV s b k) ∧ lnV s b k = fx (s * (k : Int) + b) 2 := by
  have hs := H.s1
  have hs2 := H.s2
  have hb := H.b1
  have hb2 := H.b2
  have es := (q_fx (z := s) (by omega) (by omega)).1
  have eb := (q_fx (z := b) (by omega) (by omega)).1
  by_cases h0 : k = 0
  · subst h0
    obtain ⟨e1, e2⟩ := y0_ok H
    refine ⟨e1, ?_, ?_⟩
    · rw [show lnV s b 0 = _ from fop_some e2]; exact e2
    · rw [show lnV s b 0 = _ from fop_some e2, eb]; simp
  · have hbd := sk_bd H hk
    have e1 := fx_mul (a := s) (b := (k : Int)) (i := 2) (j := 0) (by omega) (by omega) (by omega) (by omega) (fun hz => by
      rcases Int.mul_eq_zero.1 hz with h | h <;> omega)
    rw [← es, ← int_fx] at e1
    have e2 := fx_add (a := s * (k : Int)) (b := b) (k := 2) (by omega) (by omega) (by omega)
    rw [← eb] at e2
    have e3 := fop_some e1
    refine ⟨by rw [e3]; exact e1, ?_, ?_⟩
    · rw [e3, show lnV s b k = fop .add .f32 (fop .mul .f32 (qF s) (floatOfInt .f32 (k : Int))) (qF b) from rfl, e3, fop_some e2]; exact e2
    · rw [show lnV s b k = fop .add .f32 (fop .mul .f32 (qF s) (floatOfInt .f32 (k : Int))) (qF b) from rfl, e3, fop_some e2]
/-- sums of indices, of their squares, of the line, of products -/
def aS : Nat → Int | 0 => 0 | n + 1 => aS n + (n : Int)
def cS : Nat → Int | 0 => 0 | n + 1 => cS n + (n : Int) * (n : Int)
def bS (s b : Int) : Nat → Int | 0 => 0 | n + 1 => bS s b n + (s * (n : Int) + b)
def dS (s b : Int) : Nat → Int | 0 => 0 | n + 1 => dS s b n + (n : Int) * (s * (n : Int) + b)
theorem bS_is (s b : Int) (n : Nat) : bS s b n = s * aS n + (n : Int) * b := by
  induction n with
  | zero => simp [bS, aS]
  | succ n ih => unfold bS aS; rw [ih]; grind
theorem dS_is (s b : Int) (n : Nat) : dS s b n = s * cS n + b * aS n := by
  induction n with
  | zero => simp [dS, aS, cS]
  | succ n ih => unfold dS cS aS; rw [ih]; grind
theorem ac_bd {n : Nat} (h : n ≤ 9) : 0 ≤ aS n ∧ aS n ≤ 36 ∧ 0 ≤ cS n ∧ cS n ≤ 204 := by
  rcases (show n = 0 ∨ n = 1 ∨ n = 2 ∨ n = 3 ∨ n = 4 ∨ n = 5 ∨ n = 6 ∨ n = 7 ∨ n = 8 ∨ n = 9 by omega) with rfl | rfl | rfl | rfl | rfl | rfl | rfl | rfl | rfl | rfl <;> decide
theorem mul_bd {x y X Y : Int} (h1 : -X ≤ x) (h2 : x ≤ X) (h3 : 0 ≤ y) (h4 : y ≤ Y) (hX : 0 ≤ X) : -(X * Y) ≤ x * y ∧ x * y ≤ X * Y := by
  have a1 := Int.mul_le_mul h2 (Int.le_refl y) h3 hX
  have a2 := Int.mul_le_mul_of_nonneg_left h4 hX
  have a3 := Int.mul_le_mul_of_nonneg_right h1 h3
  rw [Int.neg_mul] at a3
  omega
theorem bd_bd {s b : Int} {n : Nat} (H : Sm s b) (hn : n ≤ 9) : (bS s b n).natAbs ≤ 400 ∧ (dS s b n).natAbs ≤ 2000 := by
  obtain ⟨a1, a2, a3, a4⟩ := ac_bd hn
  have m1 := mul_bd H.s1 H.s2 a1 a2 (by omega)
  have m2 := mul_bd H.s1 H.s2 a3 a4 (by omega)
  have m3 := mul_bd H.b1 H.b2 a1 a2 (by omega)
  have m4 := mul_bd H.b1 H.b2 (show 0 ≤ (n : Int) by omega) (show (n : Int) ≤ 9 by omega) (by omega)
  rw [bS_is, dS_is]
  rw [Int.mul_comm (n : Int) b]
  omega
theorem sumX {n : Nat} (h : n ≤ 9) : sumF (lnX n) = fx (aS n) 0 := by
  induction n with
  | zero => exact (fx_zero 0).symm
  | succ n ih =>
    have hb := ac_bd (n := n) (by omega)
    rw [lnX_snoc, sumF_snoc, ih (by omega), int_fx, fop_some (fx_add (by omega) (by omega) (by omega))]
    rfl
theorem sumXX {n : Nat} (h : n ≤ 9) : sumF (sqN (lnX n)) = fx (cS n) 0 := by
  induction n with
  | zero => exact (fx_zero 0).symm
  | succ n ih =>
    have hb := ac_bd (n := n) (by omega)
    have hb2 := ac_bd (n := n + 1) (by omega)
    have e : cS (n + 1) = cS n + (n : Int) * (n : Int) := rfl
    rw [lnX_snoc, show sqN (lnX n ++ [floatOfInt .f32 (n : Int)]) = sqN (lnX n) ++ [fop .mul .f32 (floatOfInt .f32 (n : Int)) (floatOfInt .f32 (n : Int))] by simp [sqN], sumF_snoc, ih (by omega), int_fx, fop_some (fx_sq (by omega) (by omega)), fop_some (fx_add (by omega) (by omega) (by omega))]
    rfl
theorem sumY {s b : Int} {n : Nat} (H : Sm s b) (h : n ≤ 9) : sumF (lnY s b n) = fx (bS s b n) 2 := by
  induction n with
  | zero => exact (fx_zero 2).symm
  | succ n ih =>
    have hb := bd_bd (n := n) H (by omega)
    have hk := sk_bd H (k := n) (by omega)
    have := H.b1
    have := H.b2
    rw [lnY_snoc, sumF_snoc, ih (by omega), (y_fx H (by omega)).2.2, fop_some (fx_add (by omega) (by omega) (by omega))]
    rfl
theorem d0_ok {s b : Int} (H : Sm s b) : fop .add .f32 0 (fop .mul .f32 (floatOfInt .f32 0) (qF b)) = 0 := by
  have h := tab2 (p := fun s b => s != s || fop .add .f32 0 (fop .mul .f32 (floatOfInt .f32 0) (qF b)) == 0) (by decide +kernel) ⟨by omega, by omega, H.b1, H.b2⟩ (s := 0)
  simpa using h
theorem sumXY {s b : Int} {n : Nat} (H : Sm s b) (h : n ≤ 9) : sumF (mulN (lnX n) (lnY s b n)) = fx (dS s b n) 2 := by
  induction n with
  | zero => exact (fx_zero 2).symm
  | succ n ih =>
    have hb := bd_bd (n := n) H (by omega)
    have hb2 := bd_bd (n := n + 1) H (by omega)
    have hk := sk_bd H (k := n) (by omega)
    have := H.b1
    have := H.b2
    have e : dS s b (n + 1) = dS s b n + (n : Int) * (s * (n : Int) + b) := rfl
    rw [lnX_snoc, lnY_snoc, show mulN (lnX n ++ [floatOfInt .f32 (n : Int)]) (lnY s b n ++ [lnV s b n]) = mulN (lnX n) (lnY s b n) ++ [fop .mul .f32 (floatOfInt .f32 (n : Int)) (lnV s b n)] by
      unfold mulN; rw [List.zipWith_append (by rw [lnX_len, lnY_len])]; rfl, sumF_snoc, ih (by omega)]
    by_cases h0 : n = 0
    · subst h0
      rw [show lnV s b 0 = _ from fop_some (y0_ok H).2, show dS s b 0 = 0 from rfl, fx_zero]
      rw [show dS s b (0 + 1) = 0 by simp [dS], fx_zero]
      exact d0_ok H
    · rw [(y_fx H (by omega)).2.2, int_fx, fop_some (fx_mul (by omega) (by omega) (by omega) (by omega) (fun hz => by rcases Int.mul_eq_zero.1 hz with h | h <;> omega)), fop_some (fx_add (by omega) (by omega) (by omega))]
      rfl
def eS (n : Nat) : Int := (n : Int) * cS n - aS n * aS n
/-- the table of quotients -/
def qtB (n : Nat) : Bool := (List.range 17).all fun i => (floatBits .quo .f32 (fx (((i : Int) - 8) * eS n) 2) (fx (eS n) 0) == some (qF ((i : Int) - 8))) && (floatBits .quo .f32 (fx ((n : Int) * ((i : Int) - 8)) 2) (fx (n : Int) 0) == some (qF ((i : Int) - 8)))
theorem qt_ok {n : Nat} {z : Int} (h1 : 2 ≤ n) (h2 : n ≤ 9) (z1 : -8 ≤ z) (z2 : z ≤ 8) : floatBits .quo .f32 (fx (z * eS n) 2) (fx (eS n) 0) = some (qF z) ∧ floatBits .quo .f32 (fx ((n : Int) * z) 2) (fx (n : Int) 0) = some (qF z) := by
  have h := all_lt (p := fun j => qtB (j + 2)) (n := 8) (by decide +kernel) (j := n - 2) (by omega)
  rw [show n - 2 + 2 = n by omega] at h
  have h := all_lt (j := (z + 8).toNat) h (by omega)
  rw [show (((z + 8).toNat : Nat) : Int) - 8 = z by omega] at h
  simpa using h
theorem eS_bd {n : Nat} (h : 2 ≤ n) (h2 : n ≤ 9) : 0 < eS n ∧ eS n ≤ 540 ∧ 0 < aS n := by
  rcases (show n = 2 ∨ n = 3 ∨ n = 4 ∨ n = 5 ∨ n = 6 ∨ n = 7 ∨ n = 8 ∨ n = 9 by omega) with rfl | rfl | rfl | rfl | rfl | rfl | rfl | rfl <;> decide
theorem small_mul {a b : Int} {A B : Nat} (h1 : a.natAbs ≤ A) (h2 : b.natAbs ≤ B) : (a * b).natAbs ≤ A * B := by
  rw [Int.natAbs_mul]; exact Nat.mul_le_mul h1 h2
/-- the nearest line -/
theorem line_law {s b : Int} {n : Nat} (H : Sm s b) (h1 : 2 ≤ n) (h2 : n ≤ 9) : slopeE (lnX n) = fx (eS n) 0 ∧ slopeS (lnX n) (lnY s b n) = qF s ∧ slopeB (lnX n) (lnY s b n) = qF b := by
  obtain ⟨a1, a2, a3, a4⟩ := ac_bd h2
  obtain ⟨b1, b2⟩ := bd_bd H h2
  obtain ⟨e1, e2, e3⟩ := eS_bd h1 h2
  have hs := H.s1
  have hs2 := H.s2
  have es := (q_fx (z := s) (by omega) (by omega)).1
  have k1 := small_mul (a := (n : Int)) (b := cS n) (A := 9) (B := 204) (by omega) (by omega)
  have k2 := small_mul (a := aS n) (b := aS n) (A := 36) (B := 36) (by omega) (by omega)
  have k3 := small_mul (a := (n : Int)) (b := dS s b n) (A := 9) (B := 2000) (by omega) (by omega)
  have k4 := small_mul (a := aS n) (b := bS s b n) (A := 36) (B := 400) (by omega) (by omega)
  have k5 := small_mul (a := s) (b := aS n) (A := 8) (B := 36) (by omega) (by omega)
  have f0 : nOf (lnX n) = fx (n : Int) 0 := by unfold nOf; rw [lnX_len]; rfl
  have hE : slopeE (lnX n) = fx (eS n) 0 := by
    unfold slopeE
    rw [f0, sumX h2, sumXX h2, fop_some (fx_mul (i := 0) (j := 0) (by omega) (by omega) (by omega) (by omega) (fun hz => by omega)), fop_some (fx_sq (k := 0) (by omega) (by omega)), fop_some (fx_sub (k := 0) (by omega) (by omega) (by omega))]
    rfl
  have hS : slopeS (lnX n) (lnY s b n) = qF s := by
    unfold slopeS
    rw [hE, f0, sumX h2, sumY H h2, sumXY H h2, fop_some (fx_mul (i := 0) (j := 2) (by omega) (by omega) (by omega) (by omega) (fun hz => by rcases Int.mul_eq_zero.1 hz with h | h <;> omega)), fop_some (fx_mul (i := 0) (j := 2) (by omega) (by omega) (by omega) (by omega) (fun hz => by rcases Int.mul_eq_zero.1 hz with h | h <;> omega)), fop_some (fx_sub (k := 2) (by omega) (by omega) (by omega))]
    rw [show (n : Int) * dS s b n - aS n * bS s b n = s * eS n by rw [bS_is, dS_is]; unfold eS; grind]
    exact fop_some (qt_ok h1 h2 hs hs2).1
  refine ⟨hE, hS, ?_⟩
  unfold slopeB
  rw [hS, es, f0, sumX h2, sumY H h2, fop_some (fx_mul (i := 2) (j := 0) (by omega) (by omega) (by omega) (by omega) (fun hz => by rcases Int.mul_eq_zero.1 hz with h | h <;> omega)), fop_some (fx_sub (k := 2) (by omega) (by omega) (by omega))]
  rw [show bS s b n - s * aS n = (n : Int) * b by rw [bS_is]; omega]
  exact fop_some (qt_ok h1 h2 H.b1 H.b2).2
theorem qF_is_fin {z : Int} (h1 : -8 ≤ z) (h2 : z ≤ 8) : Is .f32 (qF z) := by
  rw [(q_fx (z := z) (by omega) (by omega)).1]
  exact (fx_v (by omega) (by omega)).1
theorem lnX_fin {n : Nat} (h : n ≤ 9) : ∀ x ∈ lnX n, Is .f32 x := by
  intro x hx
  obtain ⟨k, hk, rfl⟩ := List.mem_map.1 hx
  rw [List.mem_range] at hk
  rw [int_fx]
  exact (fx_v (by omega) (by omega)).1
theorem lnY_fin {s b : Int} {n : Nat} (H : Sm s b) (h : n ≤ 9) : ∀ x ∈ lnY s b n, Is .f32 x := by
  intro x hx
  obtain ⟨k, hk, rfl⟩ := List.mem_map.1 hx
  rw [List.mem_range] at hk
  rw [(y_fx H (by omega)).2.2]
  have := sk_bd H (k := k) (by omega)
  have := H.b1
  have := H.b2
  exact (fx_v (by omega) (by omega)).1
theorem line_ok {s b : Int} {n : Nat} (H : Sm s b) (h1 : 2 ≤ n) (h2 : n ≤ 9) : slopeOk (lnX n) (lnY s b n) = true := by
  obtain ⟨e1, e2, e3⟩ := line_law H h1 h2
  unfold slopeOk slopeIn
  rw [e1, e2, e3, list_of_is (lnX_fin h2) (by rw [lnX_len]; omega), list_of_is (lnY_fin H h2) (by rw [lnY_len]; omega), (qF_is_fin H.s1 H.s2).fin, (qF_is_fin H.b1 H.b2).fin, lnX_len, lnY_len]
  have hne : neB (fx (eS n) 0) = true := by
    have := (eS_bd h1 h2).1
    have := (eS_bd h1 h2).2.1
    obtain ⟨i1, v1⟩ := fx_v (z := eS n) (k := 0) (by omega) (by omega)
    unfold neB
    rw [(order_v i1 ⟨_, _, _, rfl⟩).2.2, v1]
    have h0 : vl .f32 0 = 0 := by decide +kernel
    rw [h0, Bool.not_eq_true', decide_eq_false_iff_not]
    intro hz
    have := tot_zero hz
    omega
  rw [hne]
  simp
  omega
theorem sum_zero (n : Nat) : sumF (List.replicate n 0) = 0 := by
  induction n with
  | zero => rfl
  | succ n ih => rw [List.replicate_succ', sumF_snoc, ih]; decide +kernel
theorem resid_zero {s b : Int} {n : Nat} (H : Sm s b) (h : n ≤ 9) : residL (qF s) (qF b) (lnX n) (lnY s b n) = List.replicate n 0 := by
  induction n with
  | zero => rfl
  | succ n ih =>
    have hv := (y_fx (k := n) H (by omega)).2.2
    have hk := sk_bd H (k := n) (by omega)
    have := H.b1
    have := H.b2
    rw [lnX_snoc, lnY_snoc, show residL (qF s) (qF b) (lnX n ++ [floatOfInt .f32 (n : Int)]) (lnY s b n ++ [lnV s b n]) = residL (qF s) (qF b) (lnX n) (lnY s b n) ++ [fop .mul .f32 (fop .sub .f32 (lnV s b n) (lnV s b n)) (fop .sub .f32 (lnV s b n) (lnV s b n))] by
      unfold residL; rw [List.zipWith_append (by rw [lnX_len, lnY_len])]; rfl, ih (by omega), List.replicate_succ', hv, fop_some (fx_sub (k := 2) (by omega) (by omega) (by omega)), Int.sub_self, fx_zero]
    congr 1
theorem line_doubt {s b : Int} {n : Nat} (H : Sm s b) (h1 : 2 ≤ n) (h2 : n ≤ 9) : doubtR (lnX n) (lnY s b n) = 0 ∧ doubtB (lnX n) (lnY s b n) = true := by
  obtain ⟨e1, e2, e3⟩ := line_law H h1 h2
  have hok := line_ok H h1 h2
  have hr := resid_zero H (n := n) h2
  have hc : doubtC (lnX n) (lnY s b n) = 0 := by
    unfold doubtC
    rw [e2, e3, hr, sum_zero]
    unfold nOf
    rw [lnX_len]
    have h := all_lt (p := fun j => rootC (fop .quo .f32 0 (floatOfInt .f32 ((j + 2 : Nat) : Int))) == 0) (n := 8) (by decide +kernel) (j := n - 2) (by omega)
    rw [show n - 2 + 2 = n by omega] at h
    exact eq_of_beq h
  unfold doubtR doubtB
  rw [hok, if_pos rfl, if_pos rfl, hc]
  decide +kernel
end Go.Proofs.Ytbojlgbkkdnegaa
