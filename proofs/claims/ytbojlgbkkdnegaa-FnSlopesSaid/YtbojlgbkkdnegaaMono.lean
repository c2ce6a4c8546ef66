/- Logarithms: how far they are from their sums, and that greater numbers have no smaller ones, nearly. -/
import Derived.Test.YtbojlgbkkdnegaaRe
import Derived.Test.YtbojlgbkkdnegaaLo
import Derived.Test.YtbojlgbkkdnegaaWa
namespace Go.Proofs.Ytbojlgbkkdnegaa
open Ieee Go.RowKit
def et : Rat := tw (-48)
theorem et_v : 0 < et ∧ et ≤ 1 / 1000000 := by decide +kernel
theorem near_le {x y d e : Rat} (h : Near x y d) (hd : d ≤ e) : Near x y e := by unfold Near at *; grind
theorem near_trans {x y z d e : Rat} (h : Near x y d) (h' : Near y z e) : Near x z (d + e) := by unfold Near at *; grind
theorem mul_le_abs {x y X Y : Rat} (h1 : -X ≤ x) (h2 : x ≤ X) (h3 : -Y ≤ y) (h4 : y ≤ Y) : x * y ≤ X * Y ∧ -(x * y) ≤ X * Y := by
  have a := Rat.mul_nonneg (show 0 ≤ X - x by grind) (show 0 ≤ Y + y by grind)
  have b := Rat.mul_nonneg (show 0 ≤ X + x by grind) (show 0 ≤ Y - y by grind)
  have c := Rat.mul_nonneg (show 0 ≤ X - x by grind) (show 0 ≤ Y - y by grind)
  have d := Rat.mul_nonneg (show 0 ≤ X + x by grind) (show 0 ≤ Y + y by grind)
  constructor <;> grind
theorem near_mul {a a' b b' d1 d2 A B : Rat} (h1 : Near a a' d1) (h2 : Near b b' d2) (hb : -B ≤ b ∧ b ≤ B) (ha : -A ≤ a' ∧ a' ≤ A) : Near (a * b) (a' * b') (d1 * B + A * d2) := by
  unfold Near at *
  have m1 := mul_le_abs (x := a - a') (X := d1) (y := b) (Y := B) (by grind) (by grind) hb.1 hb.2
  have m2 := mul_le_abs (x := a') (X := A) (y := b - b') (Y := d2) ha.1 ha.2 (by grind) (by grind)
  constructor <;> grind
theorem ulp8 {v : Rat} (h1 : -8 ≤ v) (h2 : v ≤ 8) : ab v < tw 90 ∧ ab v < tw 100 ∧ ulp .f64 v ≤ et ∧ 3 * ulp .f64 v ≤ et := by
  have h : ab v ≤ 8 := ab_le h2 (by grind)
  have h0 := ab_nonneg v
  have k0 : (8 : Rat) < tw 90 ∧ (8 : Rat) < tw 100 := by decide +kernel
  have k1 : 3 * (8 * tw (-(FloatKind.f64.format.fractionBits + 1 : Int)) + tw (FloatKind.f64.format.leastPlace - 1)) ≤ et := by decide +kernel
  have k2 := mul_up h (Rat.le_of_lt (tw_pos (-(FloatKind.f64.format.fractionBits + 1 : Int))))
  have k3 := tw_pos (FloatKind.f64.format.leastPlace - 1)
  have k4 := Rat.mul_nonneg h0 (Rat.le_of_lt (tw_pos (-(FloatKind.f64.format.fractionBits + 1 : Int))))
  unfold ulp
  generalize tw (-(FloatKind.f64.format.fractionBits + 1 : Int)) = G at *
  generalize tw (FloatKind.f64.format.leastPlace - 1) = L at *
  refine ⟨by grind, by grind, by grind, by grind⟩
theorem a64 {x y : Nat} (hx : Is .f64 x) (hy : Is .f64 y) (h1 : -8 ≤ vl .f64 x + vl .f64 y) (h2 : vl .f64 x + vl .f64 y ≤ 8) : Is .f64 (fop .add .f64 x y) ∧ Near (vl .f64 (fop .add .f64 x y)) (vl .f64 x + vl .f64 y) et := by
  have u := ulp8 h1 h2
  have o := add_v hx hy u.2.1
  exact ⟨o.num, near_le o.near u.2.2.1⟩
theorem s64 {x y : Nat} (hx : Is .f64 x) (hy : Is .f64 y) (h1 : -8 ≤ vl .f64 x - vl .f64 y) (h2 : vl .f64 x - vl .f64 y ≤ 8) : Is .f64 (fop .sub .f64 x y) ∧ Near (vl .f64 (fop .sub .f64 x y)) (vl .f64 x - vl .f64 y) et := by
  have u := ulp8 h1 h2
  have o := sub_v hx hy u.2.1
  exact ⟨o.num, near_le o.near u.2.2.1⟩
theorem m64 {x y : Nat} (hx : Is .f64 x) (hy : Is .f64 y) (h1 : -8 ≤ vl .f64 x * vl .f64 y) (h2 : vl .f64 x * vl .f64 y ≤ 8) : Is .f64 (fop .mul .f64 x y) ∧ Near (vl .f64 (fop .mul .f64 x y)) (vl .f64 x * vl .f64 y) et := by
  have u := ulp8 h1 h2
  have o := mul_v hx hy u.2.1
  exact ⟨o.num, near_le o.near u.2.2.1⟩
theorem q64 {x y : Nat} (hx : Is .f64 x) (hy : Is .f64 y) (h0 : vl .f64 y ≠ 0) (h1 : -8 ≤ vl .f64 x / vl .f64 y) (h2 : vl .f64 x / vl .f64 y ≤ 8) : Is .f64 (fop .quo .f64 x y) ∧ Near (vl .f64 (fop .quo .f64 x y)) (vl .f64 x / vl .f64 y) et := by
  have u := ulp8 h1 h2
  have o := quo_v hx hy h0 u.1
  exact ⟨o.num, near_le o.near u.2.2.2⟩
theorem is64 {a : Nat} (h1 : bin ≤ a) (h2 : a < inf64) : Is .f64 a := ⟨_, _, _, read64 h1 h2⟩
theorem word_lt {a c : Nat} (ha : bin ≤ a) (hac : a < c) (hc : c < inf64) : vl .f64 a < vl .f64 c := by
  have o := (order_lt ha hac hc).1
  have v := (order_v (is64 ha (by omega)) (is64 (show bin ≤ c by omega) hc)).1
  rw [o] at v
  exact of_decide_eq_true v.symm
theorem word_le {a c : Nat} (ha : bin ≤ a) (hac : a ≤ c) (hc : c < inf64) : vl .f64 a ≤ vl .f64 c := by
  rcases Nat.eq_or_lt_of_le hac with h | h
  · rw [h]; exact Rat.le_refl
  · exact Rat.le_of_lt (word_lt ha h hc)
theorem t_val {t : Nat} (h1 : c075 ≤ t) (h2 : t < c15) : Is .f64 t ∧ 3 / 4 ≤ vl .f64 t ∧ vl .f64 t ≤ 3 / 2 := by
  have e1 : vl .f64 c075 = 3 / 4 := by decide +kernel
  have e2 : vl .f64 c15 = 3 / 2 := by decide +kernel
  have b1 : bin ≤ c075 := by decide
  have b2 : c15 < inf64 := by decide
  refine ⟨is64 (by omega) (by omega), ?_, ?_⟩
  · rw [← e1]; exact word_le b1 h1 (by omega)
  · rw [← e2]; exact word_le (by omega) (by omega) b2
/-- the sum of the logarithm -/
def gQ (u : Rat) : Nat → Rat
  | 0 => 0
  | j + 1 => 1 / ((25 - 2 * (j : Int) : Int) : Rat) + u * gQ u j
def gS (m : Rat) : Rat := (m - 1) / (m + 1)
def gF (m : Rat) : Rat := 2 * (gS m * gQ (gS m * gS m) 13)
def lnC : Rat := vl .f64 cln2
theorem k_val {j : Nat} (h : j < 13) : Is .f64 (iof (25 - 2 * (j : Int))) ∧ vl .f64 (iof (25 - 2 * (j : Int))) = ((25 - 2 * (j : Int) : Int) : Rat) ∧ 0 ≤ 1 / ((25 - 2 * (j : Int) : Int) : Rat) ∧ 1 / ((25 - 2 * (j : Int) : Int) : Rat) ≤ 1 ∧ ((25 - 2 * (j : Int) : Int) : Rat) ≠ 0 := by
  have h1 := all_range (p := fun j => (match FloatKind.f64.format.read (iof (25 - 2 * (j : Int))) with | .number _ _ _ => true | _ => false) && (decide (vl .f64 (iof (25 - 2 * (j : Int))) = ((25 - 2 * (j : Int) : Int) : Rat)) && (decide (0 ≤ 1 / ((25 - 2 * (j : Int) : Int) : Rat)) && (decide (1 / ((25 - 2 * (j : Int) : Int) : Rat) ≤ 1) && decide (((25 - 2 * (j : Int) : Int) : Rat) ≠ 0))))) (n := 13) (by decide +kernel) h
  simp only [Bool.and_eq_true, decide_eq_true_eq] at h1
  obtain ⟨a, b⟩ := h1
  refine ⟨?_, b⟩
  unfold Is
  split at a
  · exact ⟨_, _, _, by assumption⟩
  · cases a
theorem e_val {z : Int} (h1 : -10 ≤ z) (h2 : z ≤ 10) : Is .f64 (iof z) ∧ vl .f64 (iof z) = (z : Rat) := by
  have h := all_range (p := fun j => (match FloatKind.f64.format.read (iof ((j : Int) - 10)) with | .number _ _ _ => true | _ => false) && (decide (vl .f64 (iof ((j : Int) - 10)) = (((j : Int) - 10 : Int) : Rat)))) (n := 21) (by decide +kernel) (j := (z + 10).toNat) (by omega)
  rw [show (((z + 10).toNat : Nat) : Int) - 10 = z by omega] at h
  simp only [Bool.and_eq_true, decide_eq_true_eq] at h
  obtain ⟨a, b⟩ := h
  refine ⟨?_, b⟩
  unfold Is
  split at a
  · exact ⟨_, _, _, by assumption⟩
  · cases a
theorem gQ_bd {u : Rat} (h1 : 0 ≤ u) (h2 : u ≤ 1 / 16) : ∀ j, j ≤ 13 → 0 ≤ gQ u j ∧ gQ u j ≤ 2 := by
  intro j
  induction j with
  | zero => intro _; unfold gQ; exact ⟨by decide +kernel, by decide +kernel⟩
  | succ j ih =>
    intro hj
    obtain ⟨i1, i2⟩ := ih (by omega)
    obtain ⟨_, _, k1, k2, _⟩ := k_val (j := j) (by omega)
    have m1 := Rat.mul_nonneg h1 i1
    have m2 := mul_up h2 i1
    unfold gQ
    generalize u * gQ u j = v at *
    constructor <;> grind
theorem gS_bd {m : Rat} (h1 : 3 / 4 ≤ m) (h2 : m ≤ 3 / 2) : gS m * (m + 1) = m - 1 ∧ -(1 / 4) ≤ gS m ∧ gS m ≤ 1 / 4 ∧ 0 ≤ gS m * gS m ∧ gS m * gS m ≤ 1 / 16 := by
  have e : gS m * (m + 1) = m - 1 := by unfold gS; exact div_mul (by grind)
  have l : -(1 / 4) ≤ gS m := le_of_mul (c := m + 1) (by grind) (by rw [e]; grind)
  have u : gS m ≤ 1 / 4 := le_of_mul (c := m + 1) (by grind) (by rw [e]; grind)
  refine ⟨e, l, u, ?_, ?_⟩
  · rcases (show 0 ≤ gS m ∨ gS m ≤ 0 from Rat.le_total) with h | h
    · exact Rat.mul_nonneg h h
    · have := Rat.mul_nonneg (show 0 ≤ -gS m by grind) (show 0 ≤ -gS m by grind); grind
  · have := (mul_le_abs l u l u).1; grind
theorem S_near {t : Nat} (h1 : c075 ≤ t) (h2 : t < c15) : Is .f64 (logS t) ∧ Near (vl .f64 (logS t)) (gS (vl .f64 t)) (3 * et) := by
  obtain ⟨it, m1, m2⟩ := t_val h1 h2
  obtain ⟨e0, e1⟩ := et_v
  have i1 : Is .f64 c1 := is64 (by decide) (by decide)
  have v1 : vl .f64 c1 = 1 := by decide +kernel
  obtain ⟨gs, gl, gu, _, _⟩ := gS_bd m1 m2
  obtain ⟨ia, na⟩ := s64 it i1 (by rw [v1]; grind) (by rw [v1]; grind)
  obtain ⟨ib, nb⟩ := a64 it i1 (by rw [v1]; grind) (by rw [v1]; grind)
  rw [v1] at na nb
  unfold logS
  generalize fop .sub .f64 t c1 = x at *
  generalize fop .add .f64 t c1 = y at *
  generalize gS (vl .f64 t) = s at *
  generalize vl .f64 t = m at *
  have hB : 1 ≤ vl .f64 y := by unfold Near at nb; grind
  have h0 : vl .f64 y ≠ 0 := by grind
  have hq := div_mul (a := vl .f64 x) (b := vl .f64 y) h0
  have hA : -1 ≤ vl .f64 x ∧ vl .f64 x ≤ 1 := by unfold Near at na; grind
  have q1 : vl .f64 x / vl .f64 y ≤ 8 := le_of_mul (c := vl .f64 y) (by grind) (by rw [hq]; grind)
  have q2 : -8 ≤ vl .f64 x / vl .f64 y := le_of_mul (c := vl .f64 y) (by grind) (by rw [hq]; grind)
  obtain ⟨iq, nq⟩ := q64 ia ib h0 q2 q1
  refine ⟨iq, ?_⟩
  have hn : Near (vl .f64 x / vl .f64 y) s (2 * et) := by
    obtain ⟨q, hqe⟩ : ∃ q, q = vl .f64 x / vl .f64 y := ⟨_, rfl⟩
    rw [← hqe] at hq ⊢
    have hm := mul_le_abs (x := s) (X := 1 / 4) (y := m + 1 - vl .f64 y) (Y := et) gl gu (by unfold Near at nb; grind) (by unfold Near at nb; grind)
    have hD1 : (q - s) * vl .f64 y ≤ 2 * et := by unfold Near at na; grind
    have hD2 : (s - q) * vl .f64 y ≤ 2 * et := by unfold Near at na; grind
    have p1 : q - s ≤ 2 * et := le_of_mul (c := vl .f64 y) (by grind) (by have := mul_up' hB (show 0 ≤ 2 * et by grind); grind)
    have p2 : s - q ≤ 2 * et := le_of_mul (c := vl .f64 y) (by grind) (by have := mul_up' hB (show 0 ≤ 2 * et by grind); grind)
    exact ⟨p1, p2⟩
  exact near_le (near_trans nq hn) (by grind)
theorem U_near {t : Nat} (h1 : c075 ≤ t) (h2 : t < c15) : Is .f64 (logU t) ∧ Near (vl .f64 (logU t)) (gS (vl .f64 t) * gS (vl .f64 t)) (4 * et) := by
  obtain ⟨it, m1, m2⟩ := t_val h1 h2
  obtain ⟨e0, e1⟩ := et_v
  obtain ⟨iS, nS⟩ := S_near h1 h2
  obtain ⟨gs, gl, gu, _, _⟩ := gS_bd m1 m2
  generalize gS (vl .f64 t) = s at *
  unfold logU
  generalize logS t = x at *
  have hS : -(1 / 2) ≤ vl .f64 x ∧ vl .f64 x ≤ 1 / 2 := by unfold Near at nS; grind
  have hm := mul_le_abs hS.1 hS.2 hS.1 hS.2
  obtain ⟨iu, nu⟩ := m64 iS iS (by grind) (by grind)
  have hn := near_mul nS nS hS (show -(1 / 2) ≤ s ∧ s ≤ 1 / 2 by grind)
  exact ⟨iu, near_le (near_trans nu hn) (by grind)⟩
theorem Q_near {U : Nat} {u : Rat} (hU : Is .f64 U) (nU : Near (vl .f64 U) u (4 * et)) (h1 : 0 ≤ u) (h2 : u ≤ 1 / 16) : ∀ j, j ≤ 13 → Is .f64 (logQ U j) ∧ Near (vl .f64 (logQ U j)) (gQ u j) (18 * et) := by
  obtain ⟨e0, e1⟩ := et_v
  intro j
  induction j with
  | zero =>
    intro _
    refine ⟨⟨_, _, _, rfl⟩, ?_⟩
    have h0 : vl .f64 (logQ U 0) = 0 := by show vl .f64 0 = 0; decide +kernel
    rw [h0]
    show Near 0 0 _
    unfold Near
    grind
  | succ j ih =>
    intro hj
    obtain ⟨iq, nq⟩ := ih (by omega)
    obtain ⟨b1, b2⟩ := gQ_bd h1 h2 j (by omega)
    obtain ⟨ik, vk, k1, k2, k3⟩ := k_val (j := j) (by omega)
    have i1 : Is .f64 c1 := is64 (by decide) (by decide)
    have v1 : vl .f64 c1 = 1 := by decide +kernel
    obtain ⟨id, nd⟩ := q64 i1 ik (by rw [vk]; exact k3) (by rw [v1, vk]; grind) (by rw [v1, vk]; grind)
    rw [v1, vk] at nd
    unfold logQ gQ
    generalize fop .quo .f64 c1 (iof (25 - 2 * (j : Int))) = x at *
    generalize 1 / ((25 - 2 * (j : Int) : Int) : Rat) = k at *
    generalize logQ U j = y at *
    generalize gQ u j = q at *
    have hy : -3 ≤ vl .f64 y ∧ vl .f64 y ≤ 3 := by unfold Near at nq; grind
    have hu : -1 ≤ vl .f64 U ∧ vl .f64 U ≤ 1 := by unfold Near at nU; grind
    have hm := mul_le_abs hu.1 hu.2 hy.1 hy.2
    obtain ⟨ip, np⟩ := m64 hU iq (by grind) (by grind)
    have hn := near_mul nU nq hy (show -(1 / 16) ≤ u ∧ u ≤ 1 / 16 by grind)
    have hp := near_trans np hn
    generalize fop .mul .f64 U y = z at *
    have hz : -4 ≤ vl .f64 z ∧ vl .f64 z ≤ 4 := by unfold Near at np; grind
    have hx : -2 ≤ vl .f64 x ∧ vl .f64 x ≤ 2 := by unfold Near at nd; grind
    obtain ⟨ia, na⟩ := a64 id ip (by grind) (by grind)
    refine ⟨ia, ?_⟩
    unfold Near at na nd hp ⊢
    generalize u * q = v at *
    constructor <;> grind
theorem logR_near {t : Nat} {e : Int} (h1 : c075 ≤ t) (h2 : t < c15) (g1 : -9 ≤ e) (g2 : e ≤ 9) : Is .f64 (logR t e) ∧ Near (vl .f64 (logR t e)) (gF (vl .f64 t) + (e : Rat) * lnC) (40 * et) := by
  obtain ⟨it, m1, m2⟩ := t_val h1 h2
  obtain ⟨e0, e1⟩ := et_v
  obtain ⟨iS, nS⟩ := S_near h1 h2
  obtain ⟨iU, nU⟩ := U_near h1 h2
  obtain ⟨gs, gl, gu, u1, u2⟩ := gS_bd m1 m2
  obtain ⟨iQ, nQ⟩ := Q_near iU nU u1 u2 13 (by omega)
  obtain ⟨b1, b2⟩ := gQ_bd u1 u2 13 (by omega)
  obtain ⟨ie, ve⟩ := e_val (z := e) (by omega) (by omega)
  have i2 : Is .f64 c2 := is64 (by decide) (by decide)
  have v2 : vl .f64 c2 = 2 := by decide +kernel
  have iL : Is .f64 cln2 := is64 (by decide) (by decide)
  have vL : 0 ≤ lnC ∧ lnC ≤ 7 / 10 := by decide +kernel
  have er : -9 ≤ (e : Rat) ∧ (e : Rat) ≤ 9 := by
    have a := Rat.intCast_le_intCast.2 g1
    have b := Rat.intCast_le_intCast.2 g2
    exact ⟨a, b⟩
  unfold logR gF
  generalize logQ (logU t) 13 = y at *
  generalize gQ (gS (vl .f64 t) * gS (vl .f64 t)) 13 = q at *
  generalize gS (vl .f64 t) = s at *
  generalize logS t = x at *
  have hy : -3 ≤ vl .f64 y ∧ vl .f64 y ≤ 3 := by unfold Near at nQ; grind
  have hx : -(1 / 2) ≤ vl .f64 x ∧ vl .f64 x ≤ 1 / 2 := by unfold Near at nS; grind
  have hm := mul_le_abs hx.1 hx.2 hy.1 hy.2
  obtain ⟨ip, np⟩ := m64 iS iQ (by grind) (by grind)
  have hn := near_mul nS nQ hy (show -(1 / 4) ≤ s ∧ s ≤ 1 / 4 by grind)
  have hp := near_trans np hn
  generalize fop .mul .f64 x y = z at *
  have hz : -2 ≤ vl .f64 z ∧ vl .f64 z ≤ 2 := by unfold Near at np; grind
  obtain ⟨i4, n4⟩ := m64 i2 ip (by rw [v2]; grind) (by rw [v2]; grind)
  rw [v2] at n4
  have hl := mul_le_abs (x := (e : Rat)) (X := 9) (y := lnC) (Y := 7 / 10) er.1 er.2 (by grind) (by grind)
  obtain ⟨i5, n5⟩ := m64 ie iL (by rw [ve, show vl .f64 cln2 = lnC from rfl]; grind) (by rw [ve, show vl .f64 cln2 = lnC from rfl]; grind)
  rw [ve, show vl .f64 cln2 = lnC from rfl] at n5
  have hsq := mul_le_abs (x := s) (X := 1 / 4) (y := q) (Y := 2) gl gu (by grind) (by grind)
  generalize s * q = v at *
  generalize (e : Rat) * lnC = l at *
  generalize fop .mul .f64 c2 z = a at *
  generalize fop .mul .f64 (iof e) cln2 = b at *
  have ha : -1 / 1 - 1 / 10 ≤ vl .f64 a ∧ vl .f64 a ≤ 1 + 1 / 10 := by unfold Near at n4 hp; grind
  have hb : -(64 / 10) ≤ vl .f64 b ∧ vl .f64 b ≤ 64 / 10 := by unfold Near at n5; grind
  obtain ⟨i6, n6⟩ := a64 i4 i5 (by grind) (by grind)
  refine ⟨i6, ?_⟩
  unfold Near at *
  constructor <;> grind
/-- the narrowed one -/
theorem nar_near {r : Nat} {v d : Rat} (hr : Is .f64 r) (hn : Near (vl .f64 r) v d) (h1 : -8 ≤ vl .f64 r) (h2 : vl .f64 r ≤ 8) : floatToFloatBits .f64 r .f32 = some (nar r) ∧ Is .f32 (nar r) ∧ Near (vl .f32 (nar r)) v (d + tw (-20)) := by
  obtain ⟨s, m, p, hd⟩ := hr
  have hab : ab (vl .f64 r) ≤ 8 := ab_le h2 (by grind)
  have hv : vl .f64 r = val (.number s m p) := by unfold vl; rw [hd]
  have hf : Fits (.number s m p) 99 := fit_val ⟨_, _, _, rfl⟩ (by rw [← hv]; have : (8 : Rat) < tw (99 + 1) := by decide +kernel
                                                                  grind)
  have hf2 := fits_enc .f32 (fits_mono hf (show (99 : Int) ≤ 126 by omega)) (by decide) (by decide)
  obtain ⟨h3, h4⟩ := fits_nan hf2
  have h5 : floatToFloatBits .f64 r .f32 = some (FloatKind.f32.format.write (.number s m p)) := by
    unfold floatToFloatBits
    rw [if_neg (by decide), show FloatKind.f64.decode r = .number s m p from hd]
    dsimp only
    rw [if_neg (by show ¬ (FloatKind.f32.format.read (FloatKind.f32.format.write (.number s m p))).isInfinity = true; rw [h4]; decide)]
    rfl
  have h6 : nar r = FloatKind.f32.format.write (.number s m p) := by unfold nar; rw [h5]; rfl
  obtain ⟨s', m', p', h7, h8⟩ := fits_val (k := .f32) hf (by decide)
  refine ⟨by rw [h6]; exact h5, by rw [h6]; exact ⟨_, _, _, h7⟩, ?_⟩
  have h9 : vl .f32 (nar r) = val (.number s' m' p') := by unfold vl; rw [h6, h7]
  rw [← hv, ← h9] at h8
  have k1 : 8 * tw (-(FloatKind.f32.format.fractionBits + 1 : Int)) + tw (FloatKind.f32.format.leastPlace - 1) ≤ tw (-20) := by decide +kernel
  have k2 := mul_up hab (Rat.le_of_lt (tw_pos (-(FloatKind.f32.format.fractionBits + 1 : Int))))
  unfold ulp at h8
  unfold Near at *
  constructor <;> grind
theorem gS_mono {m n : Rat} (h1 : 3 / 4 ≤ m) (h2 : m ≤ n) (h3 : n ≤ 3 / 2) : gS m ≤ gS n := by
  have e1 := (gS_bd h1 (by grind)).1
  have e2 := (gS_bd (m := n) (by grind) h3).1
  have b1 := (gS_bd h1 (by grind)).2.2.1
  refine le_of_mul (c := n + 1) (by grind) ?_
  rw [e2]
  have := mul_up' (a := m) (b := n) (c := 1 - gS m) h2 (by grind)
  grind
theorem sq_up {a b : Rat} (h : 0 ≤ a) (h2 : a ≤ b) : a * a ≤ b * b := by
  have h3 := mul_up' h2 h
  have h4 := mul_up h2 (show 0 ≤ b by grind)
  grind
/-- an odd sum with no negative terms rises -/
theorem gR_mono {s t : Rat} (hst : s ≤ t) : ∀ j, j ≤ 13 → s * gQ (s * s) j ≤ t * gQ (t * t) j ∧ (0 ≤ s → 0 ≤ s * gQ (s * s) j) ∧ (t ≤ 0 → t * gQ (t * t) j ≤ 0) ∧ (0 ≤ t → 0 ≤ t * gQ (t * t) j) ∧ (s ≤ 0 → s * gQ (s * s) j ≤ 0) := by
  intro j
  induction j with
  | zero => intro _; unfold gQ; grind
  | succ j ih =>
    intro hj
    obtain ⟨i1, i2, i3, i4, i5⟩ := ih (by omega)
    obtain ⟨_, _, k1, _, _⟩ := k_val (j := j) (by omega)
    unfold gQ
    generalize 1 / ((25 - 2 * (j : Int) : Int) : Rat) = c at *
    obtain ⟨f, hf⟩ : ∃ f, f = s * gQ (s * s) j := ⟨_, rfl⟩
    obtain ⟨g, hg⟩ : ∃ g, g = t * gQ (t * t) j := ⟨_, rfl⟩
    have e1 : s * (c + s * s * gQ (s * s) j) = c * s + s * s * f := by rw [hf]; grind
    have e2 : t * (c + t * t * gQ (t * t) j) = c * t + t * t * g := by rw [hg]; grind
    rw [e1, e2]
    rw [← hf, ← hg] at i1
    rw [← hf] at i2 i5
    rw [← hg] at i3 i4
    clear e1 e2 hf hg
    have hs2 : 0 ≤ s * s := by
      rcases (show 0 ≤ s ∨ s ≤ 0 from Rat.le_total) with h | h
      · exact Rat.mul_nonneg h h
      · have := Rat.mul_nonneg (show 0 ≤ -s by grind) (show 0 ≤ -s by grind); grind
    have ht2 : 0 ≤ t * t := by
      rcases (show 0 ≤ t ∨ t ≤ 0 from Rat.le_total) with h | h
      · exact Rat.mul_nonneg h h
      · have := Rat.mul_nonneg (show 0 ≤ -t by grind) (show 0 ≤ -t by grind); grind
    have hc := mul_up' hst k1
    have n1 : 0 ≤ s → 0 ≤ s * s * f := fun h => Rat.mul_nonneg hs2 (i2 h)
    have n2 : 0 ≤ t → 0 ≤ t * t * g := fun h => Rat.mul_nonneg ht2 (i4 h)
    have n3 : s ≤ 0 → s * s * f ≤ 0 := fun h => by have := Rat.mul_nonneg hs2 (show 0 ≤ -f by have := i5 h; grind); grind
    have n4 : t ≤ 0 → t * t * g ≤ 0 := fun h => by have := Rat.mul_nonneg ht2 (show 0 ≤ -g by have := i3 h; grind); grind
    have hmono : s * s * f ≤ t * t * g := by
      rcases (show 0 ≤ s ∨ s ≤ 0 from Rat.le_total) with h | h
      · have a1 := mul_up (sq_up h hst) (i2 h)
        have a2 := mul_up' i1 ht2
        grind
      · rcases (show 0 ≤ t ∨ t ≤ 0 from Rat.le_total) with h' | h'
        · have := n3 h; have := n2 h'; grind
        · have a0 := sq_up (a := -t) (b := -s) (by grind) (by grind)
          have a1 := mul_up (c := -g) (show t * t ≤ s * s by grind) (by have := i3 h'; grind)
          have a2 := mul_up' i1 hs2
          grind
    have c1 : 0 ≤ s → 0 ≤ c * s := fun h => Rat.mul_nonneg k1 h
    have c2 : 0 ≤ t → 0 ≤ c * t := fun h => Rat.mul_nonneg k1 h
    have c3 : s ≤ 0 → c * s ≤ 0 := fun h => by have := Rat.mul_nonneg k1 (show 0 ≤ -s by grind); grind
    have c4 : t ≤ 0 → c * t ≤ 0 := fun h => by have := Rat.mul_nonneg k1 (show 0 ≤ -t by grind); grind
    refine ⟨by grind, fun h => ?_, fun h => ?_, fun h => ?_, fun h => ?_⟩
    · have := c1 h; have := n1 h; grind
    · have := c4 h; have := n4 h; grind
    · have := c2 h; have := n2 h; grind
    · have := c3 h; have := n3 h; grind
theorem gF_mono {m n : Rat} (h1 : 3 / 4 ≤ m) (h2 : m ≤ n) (h3 : n ≤ 3 / 2) : gF m ≤ gF n := by
  have h := (gR_mono (gS_mono h1 h2 h3) 13 (by omega)).1
  unfold gF
  grind
theorem gF_seam : gF (3 / 2) ≤ gF (3 / 4) + lnC + tw (-40) := by decide +kernel
/-- the sum for a number's bits -/
def gW (b : Nat) : Rat := gF (vl .f64 (logT b)) + (logE b : Rat) * lnC
structure Mid (b : Nat) : Prop where
  lo : 870 * bin ≤ b
  hi : b < 1152 * bin
  e1 : -9 ≤ logE b
  e2 : logE b ≤ 9
theorem mid_t {b : Nat} (h : Mid b) : c075 ≤ logT b ∧ logT b < c15 ∧ ((logT b : Nat) : Int) + logE b * (bin : Int) = b := by
  obtain ⟨h1, h2, _, _⟩ := h
  have hm : 0 ≤ ((b : Int) - (c075 : Int)) % (bin : Int) ∧ ((b : Int) - (c075 : Int)) % (bin : Int) < bin := ⟨Int.emod_nonneg _ (by decide), Int.emod_lt_of_pos _ (by decide)⟩
  have hd := Int.emod_add_mul_ediv ((b : Int) - (c075 : Int)) (bin : Int)
  refine ⟨by unfold logT; omega, by unfold logT; unfold bin c075 c15 at *; omega, ?_⟩
  unfold logT logE
  rw [Int.mul_comm]
  omega
theorem gW_mono {a b : Nat} (ha : Mid a) (hb : Mid b) (h : a ≤ b) : gW a ≤ gW b + tw (-40) := by
  obtain ⟨a1, a2, a3⟩ := mid_t ha
  obtain ⟨b1, b2, b3⟩ := mid_t hb
  obtain ⟨_, va1, va2⟩ := t_val a1 a2
  obtain ⟨_, vb1, vb2⟩ := t_val b1 b2
  have h0 := tw_pos (-40)
  unfold gW
  by_cases he : logE a = logE b
  · rw [he]
    rw [he] at a3
    have hle : logT a ≤ logT b := by omega
    have hv := word_le (a := logT a) (c := logT b) (by unfold c075 bin at *; omega) hle (by unfold c15 inf64 at *; omega)
    have := gF_mono va1 hv vb2
    grind
  · have hlt : logE a + 1 ≤ logE b := by
      apply Classical.byContradiction
      intro hn
      have hge : logE b + 1 ≤ logE a := by omega
      have := Int.mul_le_mul_of_nonneg_right hge (show (0 : Int) ≤ (bin : Int) by decide)
      rw [Int.add_mul, Int.one_mul] at this
      unfold c075 c15 bin at *
      omega
    have m1 := gF_mono va1 va2 (Rat.le_refl)
    have m2 := gF_mono (Rat.le_refl) vb1 vb2
    have hs := gF_seam
    have vL : 0 ≤ lnC := by decide +kernel
    have hl := mul_up (Rat.intCast_le_intCast.2 hlt) vL
    rw [Rat.intCast_add] at hl
    grind
/-- how far a logarithm is from its sum -/
theorem logC_near {x : Nat} (_hp : Pos x) (hm : Mid (wid x)) : Is .f32 (logC x) ∧ Near (vl .f32 (logC x)) (gW (wid x)) (tw (-19)) ∧ -9 ≤ vl .f32 (logC x) ∧ vl .f32 (logC x) ≤ 9 := by
  obtain ⟨t1, t2, _⟩ := mid_t hm
  obtain ⟨i, n⟩ := logR_near t1 t2 hm.e1 hm.e2
  obtain ⟨_, m1, m2⟩ := t_val t1 t2
  obtain ⟨e0, e1⟩ := et_v
  have vL : 0 ≤ lnC ∧ lnC ≤ 7 / 10 := by decide +kernel
  have er : -9 ≤ ((logE (wid x) : Int) : Rat) ∧ ((logE (wid x) : Int) : Rat) ≤ 9 := by
    have a := Rat.intCast_le_intCast.2 hm.e1
    have b := Rat.intCast_le_intCast.2 hm.e2
    exact ⟨a, b⟩
  have hl := mul_le_abs (x := ((logE (wid x) : Int) : Rat)) (X := 9) (y := lnC) (Y := 7 / 10) er.1 er.2 (by grind) (by grind)
  obtain ⟨_, gl, gu, u1, u2⟩ := gS_bd m1 m2
  obtain ⟨b1, b2⟩ := gQ_bd u1 u2 13 (by omega)
  have hsq := mul_le_abs gl gu (y := gQ (gS (vl .f64 (logT (wid x))) * gS (vl .f64 (logT (wid x)))) 13) (Y := 2) (by grind) (by grind)
  have hb : -8 ≤ vl .f64 (logR (logT (wid x)) (logE (wid x))) ∧ vl .f64 (logR (logT (wid x)) (logE (wid x))) ≤ 8 := by
    unfold Near gF at n
    generalize gS (vl .f64 (logT (wid x))) * gQ (gS (vl .f64 (logT (wid x))) * gS (vl .f64 (logT (wid x)))) 13 = v at *
    generalize ((logE (wid x) : Int) : Rat) * lnC = l at *
    grind
  obtain ⟨_, n2, n3⟩ := nar_near i n hb.1 hb.2
  have k : 40 * et + tw (-20) ≤ tw (-19) ∧ tw (-19) ≤ 1 / 4 := by decide +kernel
  refine ⟨n2, near_le n3 k.1, ?_⟩
  show -9 ≤ vl .f32 (nar (logR (logT (wid x)) (logE (wid x)))) ∧ vl .f32 (nar (logR (logT (wid x)) (logE (wid x)))) ≤ 9
  unfold Near at n n3
  grind
theorem log_mono {x y : Nat} (hx : Pos x) (hy : Pos y) (mx : Mid (wid x)) (my : Mid (wid y)) (h : vl .f32 x ≤ vl .f32 y) : Is .f32 (logC y) ∧ vl .f32 (logC x) ≤ vl .f32 (logC y) + tw (-17) := by
  obtain ⟨i1, n1, _⟩ := logC_near hx mx
  obtain ⟨i2, n2, _⟩ := logC_near hy my
  have ix : Is .f32 x := by obtain ⟨m, p, hr, _⟩ := hx; exact ⟨_, _, _, hr⟩
  have iy : Is .f32 y := by obtain ⟨m, p, hr, _⟩ := hy; exact ⟨_, _, _, hr⟩
  have hw : wid x ≤ wid y := by
    apply Classical.byContradiction
    intro hn
    have hlt := word_lt (a := wid y) (c := wid x) (by have := my.lo; unfold bin at *; omega) (by omega) (by have := mx.hi; unfold bin inf64 at *; omega)
    rw [(wid_v ix).2.2, (wid_v iy).2.2] at hlt
    grind
  have hg := gW_mono mx my hw
  refine ⟨i2, ?_⟩
  have k : tw (-19) + tw (-19) + tw (-40) ≤ tw (-17) := by decide +kernel
  unfold Near at *
  grind
theorem mid_of {x : Nat} (h : Is .f32 x) (h1 : 1 / 16 ≤ vl .f32 x) (h2 : vl .f32 x ≤ 32) : Pos x ∧ Mid (wid x) ∧ FloatKind.f32.format.order x 0 = some .gt := by
  have ho : FloatKind.f32.format.order x 0 = some .gt := by
    have v := (order_v (y := 0) h ⟨_, _, _, rfl⟩).2.1
    have h0 : vl .f32 0 = 0 := by decide +kernel
    rw [h0, decide_eq_true (show (0 : Rat) < vl .f32 x by grind)] at v
    exact eq_of_beq v
  have hp := pos_of h.fin ho
  obtain ⟨r1, r2, _⟩ := pos_range hp
  have hv := (wid_v h).2.2
  have a1 : 4589168020290535424 ≤ wid x := by
    apply Classical.byContradiction
    intro hn
    have hlt := word_lt (a := wid x) (c := 4589168020290535424) (by unfold bin at *; omega) (by omega) (by decide)
    rw [hv] at hlt
    have : vl .f64 4589168020290535424 = 1 / 16 := by decide +kernel
    grind
  have a2 : wid x ≤ 4629700416936869888 := by
    apply Classical.byContradiction
    intro hn
    have hlt := word_lt (a := 4629700416936869888) (c := wid x) (by decide) (by omega) (by unfold bin inf64 at *; omega)
    rw [hv] at hlt
    have : vl .f64 4629700416936869888 = 32 := by decide +kernel
    grind
  refine ⟨hp, ⟨r1, r2, ?_, ?_⟩, ho⟩
  · unfold logE bin c075; omega
  · unfold logE bin c075; omega
end Go.Proofs.Ytbojlgbkkdnegaa
