/- Fx, Dbl, RosV -/
import Derived.Test.YtikleaiflmoffaaWa
import Derived.Test.YtikleaiflmoffaaLo
import Derived.Test.YtikleaiflmoffaaBo
-- Numbers with few digits: their sums, differences and squares are exact.
namespace Go.Proofs.Ytikleaiflmoffaa
open Ieee Go.RowKit
theorem log_shift {n : Nat} (h : n ≠ 0) (j : Nat) : (n * 2 ^ j).log2 = n.log2 + j := by
  have h1 : n * 2 ^ j ≠ 0 := Nat.mul_ne_zero h (Nat.ne_of_gt (Nat.two_pow_pos j))
  have h2 : n.log2 + j ≤ (n * 2 ^ j).log2 := by
    rw [Nat.le_log2 h1, Nat.pow_add]
    exact Nat.mul_le_mul_right _ (pow_le h)
  have h3 : (n * 2 ^ j).log2 < n.log2 + 1 + j := by
    rw [Nat.log2_lt h1, Nat.pow_add]
    exact Nat.mul_lt_mul_of_pos_right lt_pow (Nat.two_pow_pos j)
  omega
theorem cut_shift (neg : Bool) {n : Nat} (h : n ≠ 0) (e j : Nat) : Toward.even.cut neg (n * 2 ^ j) (e + j) = Toward.even.cut neg n e := by
  unfold Toward.cut
  simp only [Nat.one_shiftLeft]
  rw [log_shift h, show min (e + j) (n.log2 + j + 2) = min e (n.log2 + 2) + j from by omega]
  generalize min e (n.log2 + 2) = g
  have hp := Nat.two_pow_pos j
  rw [Nat.pow_add, Nat.mul_div_mul_right _ _ hp, Nat.mul_mod_mul_right]
  have h1 : decide (2 ^ g * 2 ^ j < 2 * (n % 2 ^ g * 2 ^ j)) = decide (2 ^ g < 2 * (n % 2 ^ g)) := by
    rw [decide_eq_decide, ← Nat.mul_assoc]
    exact Nat.mul_lt_mul_right hp
  have h2 : (2 ^ g * 2 ^ j == 2 * (n % 2 ^ g * 2 ^ j)) = (2 ^ g == 2 * (n % 2 ^ g)) := by
    rw [← Nat.mul_assoc, Bool.eq_iff_iff, beq_iff_eq, beq_iff_eq]
    exact ⟨fun h => Nat.eq_of_mul_eq_mul_right hp h, fun h => congrArg (· * 2 ^ j) h⟩
  rw [h1, h2]
theorem nearest_shift (f : Format) (s : Bool) {n : Nat} (h : n ≠ 0) (p : Int) (j : Nat) : f.nearest s (n * 2 ^ j) p = f.nearest s n (p + j) := by
  unfold Format.nearest
  rw [if_neg (Nat.mul_ne_zero h (Nat.ne_of_gt (Nat.two_pow_pos j))), if_neg h]
  dsimp only
  rw [log_shift h, show p + ((n.log2 + j : Nat) : Int) - (f.fractionBits : Int) = p + (j : Int) + (n.log2 : Int) - (f.fractionBits : Int) from by omega]
  generalize max (p + (j : Int) + (n.log2 : Int) - (f.fractionBits : Int)) f.leastPlace = last
  congr 3
  by_cases h1 : last ≤ p
  · rw [show (last - p).toNat = 0 from by omega, show (last - (p + j)).toNat = 0 from by omega, cut_zero, cut_zero, Nat.shiftLeft_eq, Nat.shiftLeft_eq, Nat.mul_assoc, ← Nat.pow_add]
    congr 2
    omega
  · rw [show (p - last).toNat = 0 from by omega, Nat.shiftLeft_zero]
    by_cases h2 : last ≤ p + j
    · rw [show (last - (p + j)).toNat = 0 from by omega, cut_zero, Nat.shiftLeft_eq]
      have h3 := cut_shift s (n := n * 2 ^ (p + j - last).toNat) (Nat.mul_ne_zero h (Nat.ne_of_gt (Nat.two_pow_pos _))) 0 (last - p).toNat
      rw [Nat.zero_add, cut_zero, Nat.mul_assoc, ← Nat.pow_add, show (p + j - last).toNat + (last - p).toNat = j from by omega] at h3
      exact h3
    · rw [show (p + j - last).toNat = 0 from by omega, Nat.shiftLeft_zero]
      have h3 := cut_shift s h (last - (p + j)).toNat j
      rw [show (last - (p + j)).toNat + j = (last - p).toNat from by omega] at h3
      exact h3
theorem nat_of_tw {m n : Nat} {p q : Int} (h : (m : Rat) * tw p = (n : Rat) * tw q) (hpq : p ≤ q) : m = n * 2 ^ (q - p).toNat := by
  have h1 : tw q = tw ((q - p).toNat : Int) * tw p := by rw [← tw_add]; congr 1; omega
  rw [h1, tw_nat, ← Rat.mul_assoc] at h
  have h2 := eq_of_mul (tw_pos p) h
  rw [← Rat.natCast_mul] at h2
  exact Rat.natCast_inj.1 h2
theorem nearest_eq (f : Format) (s : Bool) {m n : Nat} {p q : Int} (hm : m ≠ 0) (hn : n ≠ 0) (h : (m : Rat) * tw p = (n : Rat) * tw q) : f.nearest s m p = f.nearest s n q := by
  rcases Int.le_total p q with hpq | hpq
  · rw [nat_of_tw h hpq, nearest_shift f s hn, show p + ((q - p).toNat : Int) = q from by omega]
  · rw [nat_of_tw h.symm hpq, nearest_shift f s hm, show q + ((p - q).toNat : Int) = p from by omega]
theorem mag_zero {m : Nat} {p : Int} (h : (m : Rat) * tw p = 0) : m = 0 := by
  rcases Nat.eq_zero_or_pos m with h0 | h0
  · exact h0
  · have h1 : (0 : Rat) < (m : Rat) := Rat.natCast_lt_natCast.2 h0
    have := Rat.mul_pos h1 (tw_pos p)
    grind
/-- what is written hangs on the number alone -/
theorem write_val (f : Format) {s t : Bool} {m n : Nat} {p q : Int} (h : val (.number s m p) = val (.number t n q)) (h0 : val (.number s m p) = 0 → s = t) : f.write (.number s m p) = f.write (.number t n q) := by
  have h' : sg s ((m : Rat) * tw p) = sg t ((n : Rat) * tw q) := h
  have a1 := mag_nonneg m p
  have a2 := mag_nonneg n q
  by_cases hz : val (.number s m p) = 0
  · obtain rfl := h0 hz
    have hz' : val (.number s n q) = 0 := by rw [← h]; exact hz
    have m0 : m = 0 := mag_zero (p := p) (by have : sg s _ = 0 := hz; unfold sg at this; cases s <;> simp at this <;> grind)
    have n0 : n = 0 := mag_zero (p := q) (by have : sg s _ = 0 := hz'; unfold sg at this; cases s <;> simp at this <;> grind)
    subst m0 n0
    show f.nearest s 0 p = f.nearest s 0 q
    unfold Format.nearest
    rw [if_pos rfl, if_pos rfl]
  · have hne : (m : Rat) * tw p ≠ 0 := fun he => hz (by show sg s _ = 0; rw [he]; cases s <;> simp [sg])
    have hst : s = t ∧ (m : Rat) * tw p = (n : Rat) * tw q := by
      unfold sg at h'
      cases s <;> cases t <;> simp at h' <;> first | exact ⟨rfl, by grind⟩ | (exfalso; grind)
    obtain ⟨rfl, he⟩ := hst
    refine nearest_eq f s ?_ ?_ he
    · rintro rfl
      exact hne (by rw [show ((0 : Nat) : Rat) = 0 from rfl, Rat.zero_mul])
    · rintro rfl
      exact hne (by rw [he, show ((0 : Nat) : Rat) = 0 from rfl, Rat.zero_mul])
/-- z * 2 ^ -k as a float32 -/
def fxD (z : Int) (k : Nat) : Datum := .number (decide (z < 0)) z.natAbs (-(k : Int))
def fx (z : Int) (k : Nat) : Nat := FloatKind.f32.format.write (fxD z k)
theorem val_fx (z : Int) (k : Nat) : val (fxD z k) = (z : Rat) * tw (-(k : Int)) := by
  have h := val_int z false (-(k : Int))
  unfold fxD
  by_cases h0 : z = 0
  · subst h0
    show sg _ (((0 : Nat) : Rat) * _) = ((0 : Int) : Rat) * _
    rw [show ((0 : Nat) : Rat) = 0 from rfl, show ((0 : Int) : Rat) = 0 from rfl, Rat.zero_mul]
    simp [sg]
  · rw [if_neg h0] at h
    exact h
/-- how it reads -/
theorem fx_read {z : Int} {k : Nat} (hz : z.natAbs < 16777216) (hk : k ≤ 100) : ∃ m p, FloatKind.f32.format.read (fx z k) = .number (decide (z < 0)) m p ∧ (m : Rat) * tw p = (z.natAbs : Rat) * tw (-(k : Int)) := by
  by_cases h0 : z = 0
  · subst h0
    refine ⟨0, -149, ?_, ?_⟩
    · show FloatKind.f32.format.read (FloatKind.f32.format.nearest false 0 (-(k : Int))) = _
      unfold Format.nearest
      rw [if_pos rfl]
      decide
    · show ((0 : Nat) : Rat) * _ = ((0 : Nat) : Rat) * _
      rw [show ((0 : Nat) : Rat) = 0 from rfl, Rat.zero_mul, Rat.zero_mul]
  · have hn : z.natAbs ≠ 0 := by omega
    obtain ⟨a, b, c, d⟩ := fmt32
    have hl : z.natAbs.log2 < 24 := by rw [Nat.log2_lt hn]; exact hz
    obtain ⟨last, hlast⟩ : ∃ last, last = max (-(k : Int) + z.natAbs.log2 - FloatKind.f32.format.fractionBits) FloatKind.f32.format.leastPlace := ⟨_, rfl⟩
    obtain ⟨m, p, hr, hv⟩ := nearest_read FloatKind.f32.format (decide (z < 0)) z.natAbs (-(k : Int)) last hn hlast (by rw [a, b, c]; rw [c, d] at hlast; omega)
    rw [c, d] at hlast
    refine ⟨m, p, hr, ?_⟩
    rw [hv, show (last - -(k : Int)).toNat = 0 from by omega, cut_zero, Nat.shiftLeft_eq, Rat.natCast_mul, ← tw_nat, Rat.mul_assoc, ← tw_add, show ((-(k : Int) - last).toNat : Int) + last = -(k : Int) from by omega]
theorem fx_v {z : Int} {k : Nat} (hz : z.natAbs < 16777216) (hk : k ≤ 100) : Is .f32 (fx z k) ∧ vl .f32 (fx z k) = (z : Rat) * tw (-(k : Int)) := by
  obtain ⟨m, p, h1, h2⟩ := fx_read hz hk
  refine ⟨⟨_, _, _, h1⟩, ?_⟩
  unfold vl
  rw [h1, ← val_fx]
  show sg _ _ = sg _ _
  rw [h2]
theorem fx_of {op : BinOp} {x y : Nat} {s : Bool} {M : Nat} {P z : Int} {k : Nat} (h : floatBits op .f32 x y = some (FloatKind.f32.format.write (.number s M P))) (hv : val (.number s M P) = (z : Rat) * tw (-(k : Int))) (h0 : z = 0 → s = false) : floatBits op .f32 x y = some (fx z k) := by
  rw [h]
  congr 1
  refine write_val _ (by rw [hv, ← val_fx]; rfl) fun hz => ?_
  have hzz : z = 0 := by
    rw [hv] at hz
    have h1 : (z : Rat) = 0 := eq_of_mul (tw_pos (-(k : Int))) (by rw [hz, Rat.zero_mul])
    exact Rat.intCast_inj.1 (show (z : Rat) = ((0 : Int) : Rat) from h1)
  rw [h0 hzz, hzz]
  rfl
theorem tot_zero {t : Int} {b : Int} (h : ((t : Int) : Rat) * tw b = 0) : t = 0 := by
  have h1 : (t : Rat) = 0 := eq_of_mul (tw_pos b) (by rw [h, Rat.zero_mul])
  exact Rat.intCast_inj.1 (show (t : Rat) = ((0 : Int) : Rat) from h1)
theorem fx_add {a b : Int} {k : Nat} (ha : a.natAbs < 16777216) (hb : b.natAbs < 16777216) (hk : k ≤ 100) : floatBits .add .f32 (fx a k) (fx b k) = some (fx (a + b) k) := by
  obtain ⟨m, p, h1, _⟩ := fx_read ha hk
  obtain ⟨n, q, h2, _⟩ := fx_read hb hk
  have e1 := (fx_v ha hk).2
  have e2 := (fx_v hb hk).2
  unfold vl at e1 e2
  rw [h1] at e1
  rw [h2] at e2
  obtain ⟨r, hr⟩ : ∃ r, (Datum.number (decide (a < 0)) m p).sum (.number (decide (b < 0)) n q) = some r := ⟨_, rfl⟩
  obtain ⟨e3, _⟩ := val_sum ⟨_, _, _, rfl⟩ ⟨_, _, _, rfl⟩ hr
  rw [e1, e2] at e3
  have hf : floatBits .add .f32 (fx a k) (fx b k) = some (FloatKind.f32.format.write r) := by unfold floatBits Format.add; dsimp only; rw [h1, h2, hr]; rfl
  unfold Datum.sum at hr
  dsimp only at hr
  rw [Option.some.injEq] at hr
  subst hr
  refine fx_of hf (by rw [e3, Rat.intCast_add]; grind) fun h0 => ?_
  rw [val_int] at e3
  have ht := tot_zero (b := min p q) (by rw [e3]; have : ((a + b : Int) : Rat) = 0 := by rw [h0]; rfl
                                         rw [Rat.intCast_add] at this; grind)
  rw [if_pos ht]
  simp
  omega
theorem fx_sub {a b : Int} {k : Nat} (ha : a.natAbs < 16777216) (hb : b.natAbs < 16777216) (hk : k ≤ 100) : floatBits .sub .f32 (fx a k) (fx b k) = some (fx (a - b) k) := by
  obtain ⟨m, p, h1, _⟩ := fx_read ha hk
  obtain ⟨n, q, h2, _⟩ := fx_read hb hk
  have e1 := (fx_v ha hk).2
  have e2 := (fx_v hb hk).2
  unfold vl at e1 e2
  rw [h1] at e1
  rw [h2] at e2
  obtain ⟨r, hr⟩ : ∃ r, (Datum.number (decide (a < 0)) m p).sum (.number (!decide (b < 0)) n q) = some r := ⟨_, rfl⟩
  obtain ⟨e3, _⟩ := val_sum ⟨_, _, _, rfl⟩ ⟨_, _, _, rfl⟩ hr
  rw [e1, show val (.number (!decide (b < 0)) n q) = - val (.number (decide (b < 0)) n q) from val_opp (.number (decide (b < 0)) n q), e2] at e3
  have hf : floatBits .sub .f32 (fx a k) (fx b k) = some (FloatKind.f32.format.write r) := by unfold floatBits Format.sub; dsimp only; rw [h1, h2, show (Datum.number (decide (b < 0)) n q).opposite = .number (!decide (b < 0)) n q from rfl, hr]; rfl
  unfold Datum.sum at hr
  dsimp only at hr
  rw [Option.some.injEq] at hr
  subst hr
  refine fx_of hf (by rw [e3, Rat.intCast_sub]; grind) fun h0 => ?_
  rw [val_int] at e3
  have ht := tot_zero (b := min p q) (by rw [e3]; have : ((a - b : Int) : Rat) = 0 := by rw [h0]; rfl
                                         rw [Rat.intCast_sub] at this; grind)
  rw [if_pos ht]
  simp
  omega
theorem fx_sq {a : Int} {k : Nat} (ha : a.natAbs < 16777216) (hk : k ≤ 100) : floatBits .mul .f32 (fx a k) (fx a k) = some (fx (a * a) (k + k)) := by
  obtain ⟨m, p, h1, _⟩ := fx_read ha hk
  have e1 := (fx_v ha hk).2
  unfold vl at e1
  rw [h1] at e1
  obtain ⟨r, hr⟩ : ∃ r, (Datum.number (decide (a < 0)) m p).product (.number (decide (a < 0)) m p) = some r := ⟨_, rfl⟩
  obtain ⟨e3, _⟩ := val_prod ⟨_, _, _, rfl⟩ ⟨_, _, _, rfl⟩ hr
  rw [e1] at e3
  have hf : floatBits .mul .f32 (fx a k) (fx a k) = some (FloatKind.f32.format.write r) := by unfold floatBits Format.mul; dsimp only; rw [h1, hr]; rfl
  unfold Datum.product at hr
  dsimp only at hr
  rw [Option.some.injEq] at hr
  subst hr
  refine fx_of hf ?_ fun h0 => by simp
  rw [e3, Rat.intCast_mul, show -((k + k : Nat) : Int) = -(k : Int) + -(k : Int) from by omega, tw_add]
  grind
theorem fx_shift (z : Int) (k j : Nat) : fx z k = fx (z * (2 ^ j : Nat)) (k + j) := by
  unfold fx fxD
  have h1 := val_fx z k
  have h2 := val_fx (z * (2 ^ j : Nat)) (k + j)
  unfold fxD at h1 h2
  have hp : (0 : Int) < (2 ^ j : Nat) := by exact_mod_cast Nat.two_pow_pos j
  refine write_val _ ?_ fun _ => ?_
  · rw [h1, h2, Rat.intCast_mul, Rat.intCast_natCast, ← tw_nat, Rat.mul_assoc, ← tw_add]
    congr 2
    omega
  · rw [decide_eq_decide]
    constructor
    · intro h; exact Int.mul_neg_of_neg_of_pos h hp
    · intro h
      apply Classical.byContradiction
      intro hn
      have := Int.mul_nonneg (show 0 ≤ z by omega) (Int.le_of_lt hp)
      omega
theorem fx_div8 {a : Int} {k : Nat} (ha : a.natAbs < 16777216) (hk : k ≤ 90) : floatBits .quo .f32 (fx a k) (floatOfInt .f32 8) = some (fx a (k + 3)) := by
  obtain ⟨m, p, h1, hmv⟩ := fx_read ha (show k ≤ 100 by omega)
  have e1 := (fx_v ha (show k ≤ 100 by omega)).2
  unfold vl at e1
  rw [h1] at e1
  have h2 : FloatKind.f32.format.read (floatOfInt .f32 8) = .number false 8388608 (-20) := by decide +kernel
  have hm := read_small h1
  have hl : m.log2 ≤ 23 := by
    rcases Nat.eq_zero_or_pos m with h0 | h0
    · subst h0; decide
    · have : m.log2 < 24 := by rw [Nat.log2_lt (by omega)]; exact hm
      omega
  obtain ⟨more, hmore⟩ : ∃ more, more = FloatKind.f32.format.fractionBits + 2 + Nat.log2 8388608 - m.log2 := ⟨_, rfl⟩
  have hmr : 25 ≤ more := by
    rw [hmore, fmt32.2.2.2, show Nat.log2 8388608 = 23 from by decide]; omega
  have hdiv : m <<< more = m * 2 ^ (more - 23) * 8388608 := by
    rw [Nat.shiftLeft_eq, Nat.mul_assoc, show (8388608 : Nat) = 2 ^ 23 from rfl, ← Nat.pow_add]
    congr 2
    omega
  have hq : (Datum.number (decide (a < 0)) m p).quotient (FloatKind.f32.format.fractionBits + 2) (.number false 8388608 (-20)) = some (.number (decide (a < 0)) (2 * (m * 2 ^ (more - 23))) (p - -20 - more - 1)) := by
    unfold Datum.quotient
    dsimp only
    rw [if_neg (by decide), ← hmore, hdiv, Nat.mul_div_cancel _ (by decide), Nat.mul_mod_left]
    simp
  have hf : floatBits .quo .f32 (fx a k) (floatOfInt .f32 8) = some (FloatKind.f32.format.write (.number (decide (a < 0)) (2 * (m * 2 ^ (more - 23))) (p - -20 - more - 1))) := by
    unfold floatBits Format.div
    dsimp only
    rw [h1, h2, hq]
    rfl
  refine fx_of hf ?_ fun h0 => by simp [h0]
  have e4 : ((2 * (m * 2 ^ (more - 23)) : Nat) : Rat) * tw (p - -20 - more - 1) = (m : Rat) * tw p * tw (-3) := by
    rw [show 2 * (m * 2 ^ (more - 23)) = m * 2 ^ (more - 22) from by
      rw [Nat.mul_comm 2, Nat.mul_assoc, ← Nat.pow_succ]; congr 2; omega]
    rw [Rat.natCast_mul, ← tw_nat, Rat.mul_assoc, Rat.mul_assoc, ← tw_add, ← tw_add]
    congr 2
    omega
  show sg _ _ = _
  rw [e4, sg_assoc]
  rw [show sg (decide (a < 0)) ((m : Rat) * tw p) = (a : Rat) * tw (-(k : Int)) from e1, show -((k + 3 : Nat) : Int) = -(k : Int) + -3 from by omega, tw_add]
  grind
end Go.Proofs.Ytikleaiflmoffaa

-- Roots of numbers four times as great are twice as great.
namespace Go.Proofs.Ytikleaiflmoffaa
open Ieee Go.RowKit
theorem read_norm {f : Format} {x : Nat} {s : Bool} {m : Nat} {p : Int} (h : f.read x = .number s m p) : m < 2 * f.binade ∧ (f.binade ≤ m ∨ p = f.leastPlace) := by
  have hb := binade_pos f
  unfold Format.read at h
  dsimp only at h
  split at h
  · rename_i hlt
    injection h with _ h2 h3
    exact ⟨by omega, .inr h3.symm⟩
  · split at h
    · injection h with _ h2 h3
      have := Nat.mod_lt (x % f.signWeight) hb
      exact ⟨by omega, .inl (by omega)⟩
    · split at h <;> cases h
/-- a positive number with all its digits -/
structure Nrm (k : FloatKind) (x m : Nat) (p : Int) : Prop where
  rd : k.format.read x = .number false m p
  lo : k.format.binade ≤ m
  hi : m < 2 * k.format.binade
theorem binade_tw (k : FloatKind) : ((2 * k.format.binade : Nat) : Rat) = tw (k.format.fractionBits + 1 : Int) := by
  rw [tw_one, tw_nat, Rat.natCast_mul]; rfl
theorem nrm_of {k : FloatKind} {x : Nat} (hx : Is k x) (h : tw (-100) ≤ vl k x) : ∃ m p, Nrm k x m p := by
  obtain ⟨s, m, p, hr⟩ := hx
  have hp := tw_pos (-100)
  have e : vl k x = sg s ((m : Rat) * tw p) := by unfold vl; rw [hr]; rfl
  have a := mag_nonneg m p
  cases s
  · obtain ⟨h1, h2⟩ := read_norm hr
    refine ⟨m, p, hr, h2.resolve_right ?_, h1⟩
    intro hpl
    have h3 : (m : Rat) ≤ ((2 * k.format.binade : Nat) : Rat) := Rat.natCast_le_natCast.2 (by omega)
    have h4 := mul_up h3 (Rat.le_of_lt (tw_pos p))
    rw [binade_tw, ← tw_add] at h4
    rw [e] at h
    have h5 : tw ((k.format.fractionBits + 1 : Int) + p) < tw (-100) := by
      have h6 : tw ((k.format.fractionBits + 1 : Int) + p) ≤ tw (-101) := by
        refine tw_mono ?_
        rw [hpl]
        cases k <;> decide
      have h7 : tw (-100) = 2 * tw (-101) := by rw [← tw_one]; rfl
      have := tw_pos (-101)
      grind
    have h8 : sg false ((m : Rat) * tw p) = (m : Rat) * tw p := rfl
    rw [h8] at h
    grind
  · exfalso
    have h8 : sg true ((m : Rat) * tw p) = -((m : Rat) * tw p) := rfl
    rw [e, h8] at h
    grind
theorem nrm_val {k : FloatKind} {x m : Nat} {p : Int} (h : Nrm k x m p) : vl k x = (m : Rat) * tw p := by
  unfold vl
  rw [h.rd]
  rfl
/-- digits and place of a number that is a power of two times another one -/
theorem nrm_eq {B m n : Nat} {p q : Int} (hm1 : B ≤ m) (hm2 : m < 2 * B) (hn1 : B ≤ n) (hn2 : n < 2 * B) (h : (m : Rat) * tw p = (n : Rat) * tw q) : m = n ∧ p = q := by
  rcases Int.le_total p q with hpq | hpq
  · have h1 := nat_of_tw h hpq
    rcases Nat.eq_zero_or_pos (q - p).toNat with h0 | h0
    · rw [h0] at h1; exact ⟨by omega, by omega⟩
    · have h2 : 2 ^ 1 ≤ 2 ^ (q - p).toNat := Nat.pow_le_pow_right (by omega) h0
      have h3 := Nat.mul_le_mul_left n h2
      omega
  · have h1 := nat_of_tw h.symm hpq
    rcases Nat.eq_zero_or_pos (p - q).toNat with h0 | h0
    · rw [h0] at h1; exact ⟨by omega, by omega⟩
    · have h2 : 2 ^ 1 ≤ 2 ^ (p - q).toNat := Nat.pow_le_pow_right (by omega) h0
      have h3 := Nat.mul_le_mul_left m h2
      omega
theorem nrm_scale {k : FloatKind} {x y m n : Nat} {p q c : Int} (hx : Nrm k x m p) (hy : Nrm k y n q) (h : vl k y = vl k x * tw c) : n = m ∧ q = p + c := by
  rw [nrm_val hx, nrm_val hy, Rat.mul_assoc, ← tw_add] at h
  exact nrm_eq hy.lo hy.hi hx.lo hx.hi h
/-- the nearest number to one twice as great -/
theorem nearest_dbl (k : FloatKind) {mag : Nat} {place : Int} (h0 : mag ≠ 0) (h1 : -50 ≤ place + mag.log2) (h2 : place + mag.log2 ≤ 50) :
    Is k (k.format.nearest false mag place) ∧ Is k (k.format.nearest false mag (place + 1)) ∧ vl k (k.format.nearest false mag (place + 1)) = 2 * vl k (k.format.nearest false mag place) := by
  have hfb : (k.format.fractionBits : Int) ≤ 52 ∧ k.format.leastPlace ≤ -149 := by cases k <;> decide
  obtain ⟨last, hlast⟩ : ∃ last, last = place + mag.log2 - k.format.fractionBits := ⟨_, rfl⟩
  have hlow : k.format.leastPlace ≤ place + mag.log2 - k.format.fractionBits := by
    cases k
    · obtain ⟨a, b, c, d⟩ := fmt32; rw [c, d]; omega
    · obtain ⟨a, b, c, d⟩ := fmt64; rw [c, d]; omega
  have hov : ∀ l, l ≤ last + 1 → ((l - k.format.leastPlace).toNat + 2) * k.format.binade < k.format.infRung := by
    intro l hl
    cases k
    · obtain ⟨a, b, c, d⟩ := fmt32; rw [a, b, c]; rw [d] at hlast; omega
    · obtain ⟨a, b, c, d⟩ := fmt64; rw [a, b, c]; rw [d] at hlast; omega
  obtain ⟨m, p, r1, v1⟩ := nearest_read k.format false mag place last h0 (by omega) (hov last (by omega))
  obtain ⟨n, q, r2, v2⟩ := nearest_read k.format false mag (place + 1) (last + 1) h0 (by omega) (hov (last + 1) (by omega))
  refine ⟨⟨_, _, _, r1⟩, ⟨_, _, _, r2⟩, ?_⟩
  unfold vl
  rw [r1, r2]
  show (n : Rat) * tw q = 2 * ((m : Rat) * tw p)
  rw [v1, v2, show place + 1 - (last + 1) = place - last from by omega, show last + 1 - (place + 1) = last - place from by omega, tw_one]
  generalize ((Toward.even.cut false (mag <<< (place - last).toNat) (last - place).toNat : Nat) : Rat) = c
  grind
theorem rootFrom_up (n : Nat) : ∀ (todo root : Nat), n < (root + 2 ^ todo) * (root + 2 ^ todo) → n < (Datum.rootFrom n todo root + 1) * (Datum.rootFrom n todo root + 1) := by
  intro todo
  induction todo with
  | zero => intro root h; exact h
  | succ t ih =>
    intro root h
    unfold Datum.rootFrom
    dsimp only
    rw [Nat.one_shiftLeft]
    split
    · refine ih _ ?_
      rw [Nat.add_assoc, ← Nat.two_mul, Nat.mul_comm 2, ← Nat.pow_succ]
      exact h
    · rename_i h2
      exact ih _ (by omega)
/-- the root's digits and place -/
theorem root_dbl {M : Nat} {P : Int} (h1 : 4503599627370496 ≤ M) (h2 : M < 9007199254740992) (h3 : -20 ≤ P + 52) (h4 : P + 52 ≤ 30) : ∃ q e, (Datum.number false M P).root 54 = some (.number false q e) ∧ (Datum.number false M (P + 2)).root 54 = some (.number false q (e + 1)) ∧ q ≠ 0 ∧ -20 ≤ e + q.log2 ∧ e + q.log2 ≤ 20 := by
  have hM0 : M ≠ 0 := by omega
  have hlg : M.log2 = 52 := by
    have a : M.log2 < 53 := by rw [Nat.log2_lt hM0]; exact h2
    have b : 52 ≤ M.log2 := by rw [Nat.le_log2 hM0]; exact h1
    omega
  obtain ⟨more, hmore⟩ : ∃ more, more = 56 + ((P - ((56 : Nat) : Int)) % 2).toNat := ⟨_, rfl⟩
  have hm2 : 56 + ((P + 2 - ((56 : Nat) : Int)) % 2).toNat = more := by rw [hmore]; congr 2; omega
  obtain ⟨n, hn⟩ : ∃ n, n = M <<< more := ⟨_, rfl⟩
  obtain ⟨whole, hw⟩ : ∃ whole, whole = Datum.rootFrom n (n.log2 / 2 + 1) 0 := ⟨_, rfl⟩
  have hsq : whole * whole ≤ n := by rw [hw]; exact rootFrom_sq n _ 0 (Nat.zero_le _)
  have hnn : n = M * 2 ^ more := by rw [hn, Nat.shiftLeft_eq]
  have hn0 : n ≠ 0 := by rw [hnn]; exact Nat.mul_ne_zero hM0 (Nat.ne_of_gt (Nat.two_pow_pos _))
  have hup : n < (whole + 1) * (whole + 1) := by
    rw [hw]
    refine rootFrom_up n _ 0 ?_
    rw [Nat.zero_add, ← Nat.pow_add]
    have a : n < 2 ^ (n.log2 + 1) := lt_pow
    have b : 2 ^ (n.log2 + 1) ≤ 2 ^ (n.log2 / 2 + 1 + (n.log2 / 2 + 1)) := Nat.pow_le_pow_right (by omega) (by omega)
    omega
  have hmr : more = 56 ∨ more = 57 := by omega
  have hn1 : 2 ^ 108 ≤ n := by
    rw [hnn]
    rcases hmr with h | h <;> rw [h] <;> omega
  have hn2 : n < 2 ^ 110 := by
    rw [hnn]
    rcases hmr with h | h <;> rw [h] <;> omega
  have hw1 : 2 ^ 54 ≤ whole := by
    apply Classical.byContradiction
    intro hc
    have hc' : whole + 1 ≤ 2 ^ 54 := by omega
    have := Nat.mul_le_mul hc' hc'
    omega
  have hw2 : whole < 2 ^ 55 := by
    apply Classical.byContradiction
    intro hc
    have hc' : 2 ^ 55 ≤ whole := by omega
    have := Nat.mul_le_mul hc' hc'
    omega
  have hb : ∀ b : Bool, b.toNat ≤ 1 := fun b => by cases b <;> simp
  have hb1 := hb (whole * whole != n)
  obtain ⟨q, hq⟩ : ∃ q, q = 2 * whole + (whole * whole != n).toNat := ⟨_, rfl⟩
  have hq0 : q ≠ 0 := by omega
  have hql : q.log2 = 55 := by
    have a : q.log2 < 56 := by rw [Nat.log2_lt hq0]; omega
    have b : 55 ≤ q.log2 := by rw [Nat.le_log2 hq0]; omega
    omega
  refine ⟨q, (P - (more : Int)) / 2 - 1, ?_, ?_, hq0, by omega, by omega⟩
  · unfold Datum.root
    dsimp only
    rw [if_neg hM0, if_neg (by decide), hlg, show 2 * 54 - 52 = 56 from rfl, ← hmore, ← hn, ← hw, ← hq]
  · unfold Datum.root
    dsimp only
    rw [if_neg hM0, if_neg (by decide), hlg, show 2 * 54 - 52 = 56 from rfl, hm2, ← hn, ← hw, ← hq]
    congr 2
    omega
/-- a number lies by its digits' place -/
theorem mag_lo {m : Nat} {p : Int} (h0 : m ≠ 0) : tw ((m.log2 : Int) + p) ≤ (m : Rat) * tw p := by
  have g3 : ((2 ^ m.log2 : Nat) : Rat) ≤ (m : Rat) := Rat.natCast_le_natCast.2 (pow_le h0)
  rw [← tw_nat] at g3
  have g4 := mul_up g3 (Rat.le_of_lt (tw_pos p))
  rw [← tw_add] at g4
  exact g4
theorem mag_hi {m : Nat} {p : Int} : (m : Rat) * tw p < tw ((m.log2 : Int) + 1 + p) := by
  have g3 : (m : Rat) < ((2 ^ (m.log2 + 1) : Nat) : Rat) := Rat.natCast_lt_natCast.2 lt_pow
  have g4 := Rat.mul_lt_mul_of_pos_right g3 (tw_pos p)
  rw [← tw_nat, ← tw_add] at g4
  exact g4
theorem nar_write {r m : Nat} {p : Int} (h : FloatKind.f64.format.read r = .number false m p) (hf : Fits (.number false m p) 100) : nar r = FloatKind.f32.format.nearest false m p := by
  have h2 := fits_enc .f32 hf (by decide) (by decide)
  have h4 := (fits_nan h2).2
  have h5 : floatToFloatBits .f64 r .f32 = some (FloatKind.f32.format.write (.number false m p)) := by
    unfold floatToFloatBits
    rw [if_neg (by decide), show FloatKind.f64.decode r = .number false m p from h]
    dsimp only
    rw [if_neg (by show ¬ (FloatKind.f32.format.read (FloatKind.f32.format.write (.number false m p))).isInfinity = true; rw [h4]; decide)]
    rfl
  unfold nar
  rw [h5]
  rfl
theorem near_mid {x v u : Rat} (h1 : v - x ≤ u) (h2 : x - v ≤ u) (hu : u ≤ x * (1 / 16777216) + 1 / 1000000000000) (hx : 1 / 33554432 ≤ x) : v ≤ 2 * x ∧ x ≤ 2 * v := by
  constructor <;> grind
/-- a written number that is neither great nor small -/
theorem write_mid {k : FloatKind} {m : Nat} {p L U : Int} (h0 : m ≠ 0) (hL : -25 ≤ L) (h1 : L ≤ p + m.log2) (h2 : p + m.log2 ≤ U) (hU : U ≤ 50) : vl k (k.format.nearest false m p) ≤ tw (U + 2) ∧ tw (L - 1) ≤ vl k (k.format.nearest false m p) := by
  have hf : Fits (.number false m p) 50 := ⟨_, _, _, rfl, .inr (by omega)⟩
  obtain ⟨s, m', p', hr, hn1, hn2⟩ := fits_val (k := k) hf (show (50 : Int) < topE k by cases k <;> decide)
  have e : vl k (k.format.nearest false m p) = val (.number s m' p') := by unfold vl; rw [show k.format.read (k.format.nearest false m p) = _ from hr]
  have e2 : val (.number false m p) = (m : Rat) * tw p := rfl
  have a := mag_nonneg m p
  have e3 : ab ((m : Rat) * tw p) = (m : Rat) * tw p := by unfold ab; rw [if_neg (by grind)]
  rw [e2] at hn1 hn2
  have lo := mag_lo (p := p) h0
  have hi := mag_hi (m := m) (p := p)
  have lo2 := tw_mono (p := -25) (q := (m.log2 : Int) + p) (by omega)
  have lo3 := tw_mono (p := L) (q := (m.log2 : Int) + p) (by omega)
  have hi2 := tw_mono (p := (m.log2 : Int) + 1 + p) (q := U + 1) (by omega)
  have t1 : tw (-25) = 1 / 33554432 := by decide +kernel
  have hu : ulp k ((m : Rat) * tw p) ≤ (m : Rat) * tw p * (1 / 16777216) + 1 / 1000000000000 := by
    cases k
    · rw [ulp32, e3]; have := t150; grind
    · have := ulp64 ((m : Rat) * tw p); rw [e3] at this; grind
  obtain ⟨g1, g2⟩ := near_mid hn1 hn2 hu (by rw [← t1]; grind)
  rw [e]
  have t5 : tw (U + 2) = 2 * tw (U + 1) := by rw [← tw_one]; congr 1; omega
  have t6 : tw L = 2 * tw (L - 1) := by rw [← tw_one]; congr 1; omega
  constructor <;> grind
theorem rootC_dbl {x y : Nat} (hx : Is .f32 x) (hy : Is .f32 y) (h1 : tw (-14) ≤ vl .f32 x) (h2 : vl .f32 x ≤ tw 10) (h : vl .f32 y = 4 * vl .f32 x) : ∃ m p, Nrm .f32 (rootC x) m p ∧ Nrm .f32 (rootC y) m (p + 1) ∧ vl .f32 (rootC x) ≤ tw (22 + 2) ∧ tw (-23 - 1) ≤ vl .f32 (rootC x) := by
  obtain ⟨_, x2, x3⟩ := wid_v hx
  obtain ⟨_, y2, y3⟩ := wid_v hy
  have t2 : tw 2 = 4 := by decide +kernel
  have t100 := tw_mono (p := -100) (q := -14) (by decide)
  have t14 := tw_pos (-14)
  obtain ⟨M, P, nx⟩ := nrm_of x2 (by rw [x3]; grind)
  obtain ⟨N, Q, ny⟩ := nrm_of y2 (by rw [y3, h]; grind)
  obtain ⟨rfl, rfl⟩ := nrm_scale (c := 2) nx ny (by rw [y3, x3, h, t2]; grind)
  have bn : FloatKind.f64.format.binade = 4503599627370496 := fmt64.1
  have n1 := nx.lo
  have n2 := nx.hi
  rw [bn] at n1 n2
  have vx := nrm_val nx
  rw [x3] at vx
  have hN0 : N ≠ 0 := by omega
  have hlg : N.log2 = 52 := by
    have a : N.log2 < 53 := by rw [Nat.log2_lt hN0]; omega
    have b : 52 ≤ N.log2 := by rw [Nat.le_log2 hN0]; omega
    omega
  have hP1 : P + 52 ≤ 10 := by
    have h3 := mag_lo (p := P) hN0
    rw [← vx, hlg] at h3
    have h4 : tw (((52 : Nat) : Int) + P) < tw 11 := by
      have : tw 11 = 2 * tw 10 := by rw [← tw_one]; rfl
      have := tw_pos 10
      grind
    have := tw_lt h4
    omega
  have hP2 : -15 ≤ P + 52 := by
    have h3 := mag_hi (m := N) (p := P)
    rw [← vx, hlg] at h3
    have h4 := tw_lt (p := -14) (q := ((52 : Nat) : Int) + 1 + P) (by grind)
    omega
  obtain ⟨q, e, r1, r2, hq0, hq1, hq2⟩ := root_dbl n1 (by omega) (show -20 ≤ P + 52 by omega) (by omega)
  have s1 : sqC (wid x) = FloatKind.f64.format.nearest false q e := by
    unfold sqC Format.sqrt
    rw [nx.rd, show FloatKind.f64.format.fractionBits + 2 = 54 from by rw [fmt64.2.2.2], r1]
    rfl
  have s2 : sqC (wid y) = FloatKind.f64.format.nearest false q (e + 1) := by
    unfold sqC Format.sqrt
    rw [ny.rd, show FloatKind.f64.format.fractionBits + 2 = 54 from by rw [fmt64.2.2.2], r2]
    rfl
  obtain ⟨d1, d2, d3⟩ := nearest_dbl .f64 hq0 (show -50 ≤ e + q.log2 by omega) (by omega)
  obtain ⟨w1, w2⟩ := write_mid (k := .f64) (U := 20) (L := -20) hq0 (by decide) (show -20 ≤ e + q.log2 by omega) (by omega) (by decide)
  rw [← s1] at d1 d3 w1 w2
  rw [← s2] at d2 d3
  have t30 := tw_mono (p := -100) (q := -20 - 1) (by decide)
  have t30p := tw_pos (-20 - 1)
  obtain ⟨m, p, nr⟩ := nrm_of d1 (by grind)
  obtain ⟨m', p', nr'⟩ := nrm_of d2 (by grind)
  have t1 : tw 1 = 2 := by decide +kernel
  obtain ⟨rfl, rfl⟩ := nrm_scale (c := 1) nr nr' (by rw [d3, t1]; grind)
  have m1 := nr.lo
  have m2 := nr.hi
  rw [bn] at m1 m2
  have hm0 : m' ≠ 0 := by omega
  have hml : m'.log2 = 52 := by
    have a : m'.log2 < 53 := by rw [Nat.log2_lt hm0]; omega
    have b : 52 ≤ m'.log2 := by rw [Nat.le_log2 hm0]; omega
    omega
  have vr := nrm_val nr
  have hp1 : p + 52 ≤ 22 := by
    have h3 := mag_lo (p := p) hm0
    rw [← vr, hml] at h3
    have h4 : tw (((52 : Nat) : Int) + p) < tw 23 := by
      have : tw 23 = 2 * tw (20 + 2) := by rw [← tw_one]; rfl
      have := tw_pos (20 + 2)
      grind
    have := tw_lt h4
    omega
  have hp2 : -23 ≤ p + 52 := by
    have h3 := mag_hi (m := m') (p := p)
    rw [← vr, hml] at h3
    have h4 := tw_lt (p := -20 - 1) (q := ((52 : Nat) : Int) + 1 + p) (by grind)
    omega
  have e1 : rootC x = FloatKind.f32.format.nearest false m' p := nar_write nr.rd ⟨_, _, _, rfl, .inr (by omega)⟩
  have e2 : rootC y = FloatKind.f32.format.nearest false m' (p + 1) := nar_write nr'.rd ⟨_, _, _, rfl, .inr (by omega)⟩
  obtain ⟨f1, f2, f3⟩ := nearest_dbl .f32 hm0 (show -50 ≤ p + m'.log2 by omega) (by omega)
  obtain ⟨g1, g2⟩ := write_mid (k := .f32) (U := 22) (L := -23) hm0 (by decide) (show -23 ≤ p + m'.log2 by omega) (by omega) (by decide)
  rw [← e1] at f1 f3 g1 g2
  rw [← e2] at f2 f3
  have t40 := tw_mono (p := -100) (q := -23 - 1) (by decide)
  have t40p := tw_pos (-23 - 1)
  obtain ⟨a, i, na⟩ := nrm_of f1 (by grind)
  obtain ⟨b, j, nb⟩ := nrm_of f2 (by grind)
  obtain ⟨rfl, rfl⟩ := nrm_scale (c := 1) na nb (by rw [f3, t1]; grind)
  exact ⟨_, _, na, nb, g1, g2⟩
end Go.Proofs.Ytikleaiflmoffaa

-- The range over the spread of a list, and of a list twice as great and one greater.
namespace Go.Proofs.Ytikleaiflmoffaa
open Ieee Go.RowKit
theorem fx_zero (k : Nat) : fx 0 k = 0 := by
  show FloatKind.f32.format.nearest false 0 (-(k : Int)) = 0
  unfold Format.nearest
  rw [if_pos rfl]
  rfl
theorem sum_fx {b : Nat} (k : Nat) (hk : k ≤ 100) : ∀ (ys : List Int) (a : Int), (∀ y ∈ ys, y.natAbs ≤ b) → a.natAbs + ys.length * b < 16777216 → (ys.map (fx · k)).foldl (fop .add .f32) (fx a k) = fx (a + ys.sum) k := by
  intro ys
  induction ys with
  | nil => intro a _ _; simp
  | cons y r ih =>
    intro a h1 h2
    have hy := h1 y (by simp)
    rw [List.length_cons, Nat.succ_mul] at h2
    rw [List.map_cons, List.foldl_cons, fop_some (fx_add (by omega) (by omega) hk), ih (a + y) (fun z hz => h1 z (by simp [hz])) (by omega), List.sum_cons, Int.add_assoc]
theorem sumF_fx {b k : Nat} (hk : k ≤ 100) {ys : List Int} (h1 : ∀ y ∈ ys, y.natAbs ≤ b) (h2 : ys.length * b < 16777216) : sumF (ys.map (fx · k)) = fx ys.sum k := by
  have h := sum_fx k hk ys 0 h1 (by simpa using h2)
  rw [fx_zero, Int.zero_add] at h
  exact h
theorem sum_abs {b : Nat} {ys : List Int} (h : ∀ y ∈ ys, y.natAbs ≤ b) : ys.sum.natAbs ≤ ys.length * b := by
  induction ys with
  | nil => simp
  | cons y r ih =>
    have h1 := h y (by simp)
    have h2 := ih fun z hz => h z (by simp [hz])
    rw [List.sum_cons, List.length_cons, Nat.succ_mul]
    omega
/-- deviations -/
def dz (ys : List Int) : List Int := ys.map fun y => 8 * y - ys.sum
def sz (ds : List Int) : Int := (ds.map fun d => d * d).sum
def pz (ds : List Int) : List Nat := (List.range 9).map fun j => fx (ds.take j).sum 5
def rz (ds : List Int) : Nat := rootC (fx (sz ds) 13)
def cz (ds : List Int) : Nat := fop .quo .f32 (fop .sub .f32 (highS (pz ds)) (lowS (pz ds))) (rz ds)
theorem list_of_is {xs : List Nat} (h : ∀ x ∈ xs, Is .f32 x) (hl : xs.length ≤ 256) : listB xs = true := by
  unfold listB finL
  have h1 : decide (xs.length ≤ 256) = true := by simpa using hl
  have h2 : (xs.any fun x => !finB x) = false := by
    rw [List.any_eq_false]
    intro x hx
    rw [(h x hx).fin]; simp
  rw [h1, h2]; rfl
theorem ros_form {ys : List Int} (h8 : ys.length = 8) (hb : ∀ y ∈ ys, y.natAbs ≤ 36) : rosIn (ys.map (fx · 2)) = true ∧ rosS (ys.map (fx · 2)) = rz (dz ys) ∧ rosC (ys.map (fx · 2)) = cz (dz ys) ∧ (dz ys).length = 8 ∧ ∀ d ∈ dz ys, d.natAbs ≤ 600 := by
  have hs := sum_abs hb
  rw [h8] at hs
  have hdl : (dz ys).length = 8 := by unfold dz; rw [List.length_map, h8]
  have hdb : ∀ d ∈ dz ys, d.natAbs ≤ 600 := by
    intro d hd
    obtain ⟨y, hy, rfl⟩ := List.mem_map.1 hd
    have := hb y hy
    omega
  have hmean : meanF (ys.map (fx · 2)) = fx ys.sum 5 := by
    unfold meanF
    rw [sumF_fx (by decide) hb (by rw [h8]; decide), List.length_map, h8]
    exact fop_some (fx_div8 (by omega) (by decide))
  have hdev : devs (ys.map (fx · 2)) = (dz ys).map (fx · 5) := by
    unfold devs dz
    rw [hmean, List.map_map, List.map_map]
    refine List.map_congr_left fun y hy => ?_
    have := hb y hy
    show fop .sub .f32 (fx y 2) (fx ys.sum 5) = fx (8 * y - ys.sum) 5
    rw [fx_shift y 2 3, show y * ((2 ^ 3 : Nat) : Int) = 8 * y from by omega]
    exact fop_some (fx_sub (by omega) (by omega) (by decide))
  have hsq : sqN ((dz ys).map (fx · 5)) = ((dz ys).map fun d => d * d).map (fx · 10) := by
    unfold sqN
    rw [List.map_map, List.map_map]
    refine List.map_congr_left fun d hd => ?_
    have := hdb d hd
    exact fop_some (fx_sq (by omega) (by decide))
  have hqb : ∀ q ∈ (dz ys).map (fun d => d * d), q.natAbs ≤ 360000 := by
    intro q hq
    obtain ⟨d, hd, rfl⟩ := List.mem_map.1 hq
    have h1 := hdb d hd
    rw [Int.natAbs_mul]
    exact Nat.mul_le_mul h1 h1
  have hqs := sum_abs hqb
  rw [List.length_map, hdl] at hqs
  have hS : rosS (ys.map (fx · 2)) = rz (dz ys) := by
    have key : meanF (((dz ys).map fun d => d * d).map (fx · 10)) = fx ((dz ys).map fun d => d * d).sum 13 := by
      unfold meanF
      rw [sumF_fx (by decide) hqb (by rw [List.length_map, hdl]; decide), List.length_map, List.length_map, hdl]
      exact fop_some (fx_div8 (by omega) (by decide))
    unfold rosS rz sz
    rw [hdev, hsq, key]
  have hP : sumsK (devs (ys.map (fx · 2))) (ys.map (fx · 2)).length = pz (dz ys) := by
    unfold sumsK pz
    rw [hdev, List.length_map, h8]
    refine List.map_congr_left fun j hj => ?_
    rw [← List.map_take, sumF_fx (b := 600) (by decide) (fun d hd => hdb d (List.mem_of_mem_take hd)) (by rw [List.length_take, hdl]; omega)]
  refine ⟨?_, hS, ?_, hdl, hdb⟩
  · unfold rosIn
    rw [list_of_is (fun x hx => by
      obtain ⟨y, hy, rfl⟩ := List.mem_map.1 hx
      have := hb y hy
      exact (fx_v (by omega) (by decide)).1) (by rw [List.length_map, h8]; decide), List.length_map, h8]
    rfl
  · unfold rosC cz
    rw [hP, hS]
theorem sz_nn (ds : List Int) : 0 ≤ sz ds := by
  unfold sz
  induction ds with
  | nil => simp
  | cons d r ih =>
    rw [List.map_cons, List.sum_cons]
    have : 0 ≤ d * d := by
      rcases Int.le_total 0 d with h | h
      · exact Int.mul_nonneg h h
      · exact Int.mul_nonneg_of_nonpos_of_nonpos h h
    omega
theorem sz_two (ds : List Int) : sz (ds.map (2 * ·)) = 4 * sz ds := by
  unfold sz
  induction ds with
  | nil => simp
  | cons d r ih =>
    simp only [List.map_cons, List.sum_cons] at ih ⊢
    rw [ih, Int.mul_add]
    congr 1
    grind
theorem sum_two (ds : List Int) : (ds.map (2 * ·)).sum = 2 * ds.sum := by
  induction ds with
  | nil => simp
  | cons d r ih => simp only [List.map_cons, List.sum_cons]; omega
theorem dz_two {ys : List Int} (h8 : ys.length = 8) : dz (ys.map fun y => 2 * y + 4) = (dz ys).map (2 * ·) := by
  have hs : (ys.map fun y => 2 * y + 4).sum = 2 * ys.sum + 32 := by
    have key : ∀ l : List Int, (l.map fun y => 2 * y + 4).sum = 2 * l.sum + 4 * l.length := by
      intro l
      induction l with
      | nil => simp
      | cons y r ih => simp only [List.map_cons, List.sum_cons, List.length_cons]; omega
    rw [key, h8]; rfl
  unfold dz
  rw [hs, List.map_map, List.map_map]
  refine List.map_congr_left fun y _ => ?_
  show 8 * (2 * y + 4) - (2 * ys.sum + 32) = 2 * (8 * y - ys.sum)
  omega
theorem fx_le {a b : Int} {k : Nat} (ha : a.natAbs < 16777216) (hb : b.natAbs < 16777216) (hk : k ≤ 100) (h : vl .f32 (fx a k) ≤ vl .f32 (fx b k)) : a ≤ b := by
  rw [(fx_v ha hk).2, (fx_v hb hk).2] at h
  exact Rat.intCast_le_intCast.1 (le_of_mul (tw_pos _) h)
theorem part_abs {ds : List Int} (hl : ds.length = 8) (hb : ∀ d ∈ ds, d.natAbs ≤ 1200) (j : Nat) : (ds.take j).sum.natAbs ≤ 9600 := by
  have := sum_abs (ys := ds.take j) (b := 1200) fun d hd => hb d (List.mem_of_mem_take hd)
  rw [List.length_take, hl] at this
  have h2 := Nat.mul_le_mul_right 1200 (show min j 8 ≤ 8 by omega)
  omega
/-- the greatest and the least sum -/
theorem ext_z {ds : List Int} (hl : ds.length = 8) (hb : ∀ d ∈ ds, d.natAbs ≤ 1200) : ∃ H L : Int, highS (pz ds) = fx H 5 ∧ lowS (pz ds) = fx L 5 ∧ (∃ j, j ≤ 8 ∧ H = (ds.take j).sum) ∧ (∃ j, j ≤ 8 ∧ L = (ds.take j).sum) ∧ ∀ j, j ≤ 8 → (ds.take j).sum ≤ H ∧ L ≤ (ds.take j).sum := by
  have hp := part_abs hl hb
  have his : ∀ x ∈ pz ds, Is .f32 x := by
    intro x hx
    obtain ⟨j, _, rfl⟩ := List.mem_map.1 hx
    have := hp j
    exact (fx_v (by omega) (by decide)).1
  have hlen : 0 < (pz ds).length := by unfold pz; simp
  obtain ⟨a1, a2, a3⟩ := high_v hlen his
  obtain ⟨b1, b2, b3⟩ := low_v hlen his
  obtain ⟨jh, hjh, eh⟩ := List.mem_map.1 a3
  obtain ⟨jl, hjl, el⟩ := List.mem_map.1 b3
  have h1 := hp jh
  have h2 := hp jl
  refine ⟨(ds.take jh).sum, (ds.take jl).sum, eh.symm, el.symm, ⟨jh, by have := List.mem_range.1 hjh; omega, rfl⟩, ⟨jl, by have := List.mem_range.1 hjl; omega, rfl⟩, fun j hj => ?_⟩
  have h3 := hp j
  have hm : fx (ds.take j).sum 5 ∈ pz ds := List.mem_map.2 ⟨j, List.mem_range.2 (by omega), rfl⟩
  have c1 := a2 _ hm
  have c2 := b2 _ hm
  rw [← eh] at c1
  rw [← el] at c2
  exact ⟨fx_le (by omega) (by omega) (by decide) c1, fx_le (by omega) (by omega) (by decide) c2⟩
theorem all_zero {ds : List Int} (h : ∀ j, j ≤ ds.length → (ds.take j).sum = 0) : ∀ d ∈ ds, d = 0 := by
  intro d hd
  obtain ⟨i, hi, rfl⟩ := List.getElem_of_mem hd
  have h1 := h (i + 1) (by omega)
  rw [List.take_succ_eq_append_getElem hi, List.sum_append, h i (by omega)] at h1
  simpa using h1
theorem sz_zero {ds : List Int} (h : ∀ d ∈ ds, d = 0) : sz ds = 0 := by
  unfold sz
  induction ds with
  | nil => rfl
  | cons d r ih =>
    rw [List.map_cons, List.sum_cons, h d (by simp), ih fun z hz => h z (by simp [hz])]
    rfl
theorem sz_le {ds : List Int} (hl : ds.length = 8) (hb : ∀ d ∈ ds, d.natAbs ≤ 600) : sz ds ≤ 2880000 := by
  have hqb : ∀ q ∈ ds.map (fun d => d * d), q.natAbs ≤ 360000 := by
    intro q hq
    obtain ⟨d, hd, rfl⟩ := List.mem_map.1 hq
    have h1 := hb d hd
    rw [Int.natAbs_mul]
    exact Nat.mul_le_mul h1 h1
  have hqs := sum_abs hqb
  rw [List.length_map, hl] at hqs
  unfold sz
  omega
structure RosV (ds : List Int) : Prop where
  gt : gtB (rz ds) = true
  fi : finB (rz ds) = true
  is : Is .f32 (cz ds)
  pos : 0 < vl .f32 (cz ds)
  hi : vl .f32 (cz ds) ≤ 20000000000
theorem cz_two {ds : List Int} (hl : ds.length = 8) (hb : ∀ d ∈ ds, d.natAbs ≤ 600) (h0 : sz ds ≠ 0) : RosV ds ∧ RosV (ds.map (2 * ·)) ∧ cz (ds.map (2 * ·)) = cz ds := by
  have hS0 : 1 ≤ sz ds := by have := sz_nn ds; omega
  have hS1 := sz_le hl hb
  have hl2 : (ds.map (2 * ·)).length = 8 := by rw [List.length_map, hl]
  have hb2 : ∀ d ∈ ds.map (2 * ·), d.natAbs ≤ 1200 := by
    intro d hd
    obtain ⟨e, he, rfl⟩ := List.mem_map.1 hd
    have := hb e he
    omega
  obtain ⟨H, L, eh, el, ⟨jh, hjh, rfl⟩, ⟨jl, hjl, rfl⟩, hall⟩ := ext_z hl fun d hd => by have := hb d hd; omega
  obtain ⟨H2, L2, eh2, el2, ⟨jh2, hjh2, eH2⟩, ⟨jl2, hjl2, eL2⟩, hall2⟩ := ext_z hl2 hb2
  have htk : ∀ j, ((ds.map (2 * ·)).take j).sum = 2 * (ds.take j).sum := fun j => by rw [← List.map_take, sum_two]
  rw [htk] at eH2 eL2
  have e1 : H2 = 2 * (ds.take jh).sum := by
    have a := (hall jh2 hjh2).1
    have b := (hall2 jh hjh).1
    rw [htk] at b
    omega
  have e2 : L2 = 2 * (ds.take jl).sum := by
    have a := (hall jl2 hjl2).2
    have b := (hall2 jl hjl).2
    rw [htk] at b
    omega
  have hp := part_abs hl (fun d hd => by have := hb d hd; omega)
  have p1 := hp jh
  have p2 := hp jl
  obtain ⟨D, hD⟩ : ∃ D, D = (ds.take jh).sum - (ds.take jl).sum := ⟨_, rfl⟩
  have hD1 : 1 ≤ D := by
    apply Classical.byContradiction
    intro hn
    have hz := hall 0 (by omega)
    simp only [List.take_zero, List.sum_nil] at hz
    apply h0
    refine sz_zero (all_zero fun j hj => ?_)
    have := hall j (by omega)
    omega
  have s1 : fop .sub .f32 (highS (pz ds)) (lowS (pz ds)) = fx D 5 := by rw [eh, el, hD]; exact fop_some (fx_sub (by omega) (by omega) (by decide))
  have s2 : fop .sub .f32 (highS (pz (ds.map (2 * ·)))) (lowS (pz (ds.map (2 * ·)))) = fx (2 * D) 5 := by rw [eh2, el2, fop_some (fx_sub (by omega) (by omega) (by decide)), e1, e2, hD, Int.mul_sub]
  -- the roots
  obtain ⟨x1, x2⟩ := fx_v (z := sz ds) (k := 13) (by omega) (by decide)
  obtain ⟨y1, y2⟩ := fx_v (z := 4 * sz ds) (k := 13) (by omega) (by decide)
  have r1 : (1 : Rat) ≤ (sz ds : Rat) := Rat.intCast_le_intCast.2 hS0
  have r2 : (sz ds : Rat) ≤ 2880000 := Rat.intCast_le_intCast.2 hS1
  have t13 : tw (-((13 : Nat) : Int)) = 1 / 8192 := by decide +kernel
  have t14 : tw (-14) = 1 / 16384 := by decide +kernel
  have t10 : tw 10 = 1024 := by decide +kernel
  rw [t13] at x2 y2
  obtain ⟨m, p, n1, n2, n3, n4⟩ := rootC_dbl x1 y1 (by rw [x2, t14]; grind) (by rw [x2, t10]; grind) (by rw [x2, y2, Rat.intCast_mul, show ((4 : Int) : Rat) = 4 from rfl]; grind)
  have hrz : rz ds = rootC (fx (sz ds) 13) := rfl
  have hrz2 : rz (ds.map (2 * ·)) = rootC (fx (4 * sz ds) 13) := by unfold rz; rw [sz_two]
  rw [← hrz] at n1 n3 n4
  rw [← hrz2] at n2
  -- the ranges
  obtain ⟨u1, u2⟩ := fx_v (z := D) (k := 5) (by omega) (by decide)
  obtain ⟨v1, v2⟩ := fx_v (z := 2 * D) (k := 5) (by omega) (by decide)
  have d1 : (1 : Rat) ≤ (D : Rat) := Rat.intCast_le_intCast.2 hD1
  have d2 : (D : Rat) ≤ ((19200 : Int) : Rat) := Rat.intCast_le_intCast.2 (by omega)
  rw [show ((19200 : Int) : Rat) = 19200 from rfl] at d2
  have t5 : tw (-((5 : Nat) : Int)) = 1 / 32 := by decide +kernel
  rw [t5] at u2 v2
  rw [Rat.intCast_mul, show ((2 : Int) : Rat) = 2 from rfl] at v2
  have t100 : tw (-100) ≤ 1 / 1000000 := by decide +kernel
  obtain ⟨a, i, na⟩ := nrm_of u1 (by rw [u2]; grind)
  obtain ⟨b, j, nb⟩ := nrm_of v1 (by rw [v2]; grind)
  have t1 : tw 1 = 2 := by decide +kernel
  obtain ⟨rfl, rfl⟩ := nrm_scale (c := 1) na nb (by rw [u2, v2, t1]; grind)
  have hceq : cz (ds.map (2 * ·)) = cz ds := by
    unfold cz
    rw [s1, s2]
    have hm0 : m ≠ 0 := by have := n1.lo; have := binade_pos FloatKind.f32.format; omega
    unfold fop floatBits Format.div
    dsimp only
    rw [na.rd, nb.rd, n1.rd, n2.rd]
    unfold Datum.quotient
    dsimp only
    rw [if_neg hm0, if_neg hm0, show ∀ z : Int, i + 1 - (p + 1) - z - 1 = i - p - z - 1 from fun z => by omega]
  have pos_of : ∀ {x : Nat} {m : Nat} {p : Int}, Nrm .f32 x m p → Is .f32 x ∧ 0 < vl .f32 x := by
    intro x m p h
    refine ⟨⟨_, _, _, h.rd⟩, ?_⟩
    rw [nrm_val h]
    have hm : 0 < m := by have := h.lo; have := binade_pos FloatKind.f32.format; omega
    exact Rat.mul_pos (Rat.natCast_lt_natCast.2 hm) (tw_pos p)
  obtain ⟨q1, q2⟩ := pos_of n1
  obtain ⟨q3, q4⟩ := pos_of n2
  have hgt : ∀ {x : Nat}, Is .f32 x → 0 < vl .f32 x → gtB x = true := by
    intro x hx h
    unfold gtB
    rw [(order_v hx zero_is.1).2.1, zero_is.2, decide_eq_true_eq]
    exact h
  -- the quotient
  have t24 : tw (22 + 2) = 16777216 := by decide +kernel
  rw [t24] at n3
  have hcv : Is .f32 (cz ds) ∧ 0 < vl .f32 (cz ds) ∧ vl .f32 (cz ds) ≤ 20000000000 := by
    have t24' : tw (-23 - 1) = 1 / 16777216 := by decide +kernel
    rw [t24'] at n4
    obtain ⟨E, hE⟩ : ∃ E, E = vl .f32 (fx D 5) / vl .f32 (rz ds) := ⟨_, rfl⟩
    have hEN : E * vl .f32 (rz ds) = vl .f32 (fx D 5) := by rw [hE]; exact div_mul (by grind)
    have hE1 : E ≤ 600 * 16777216 := by
      refine le_of_mul q2 ?_
      rw [hEN, u2]
      have := mul_up' n4 (show (0 : Rat) ≤ 600 * 16777216 by decide +kernel)
      grind
    have hE2 : 1 / 1000000000 ≤ E := by
      refine le_of_mul q2 ?_
      rw [hEN, u2]
      have := mul_up' n3 (show (0 : Rat) ≤ 1 / 1000000000 by decide +kernel)
      grind
    have t90 : (600 * 16777216 : Rat) < tw 90 := by decide +kernel
    have g := quo_v u1 q1 (by grind) (by rw [← hE]; unfold ab; rw [if_neg (by grind)]; grind)
    have hnear := g.near.2
    have hnear1 := g.near.1
    have hab : ab E = E := by unfold ab; rw [if_neg (by grind)]
    rw [← hE, ulp32, hab] at hnear hnear1
    have t150' : tw (-150) ≤ 1 / 10000000000000 := by decide +kernel
    have hc : cz ds = fop .quo .f32 (fx D 5) (rz ds) := by unfold cz; rw [s1]
    rw [hc]
    exact ⟨g.num, by grind, by grind⟩
  refine ⟨⟨hgt q1 q2, q1.fin, hcv.1, hcv.2.1, hcv.2.2⟩, ⟨hgt q3 q4, q3.fin, by rw [hceq]; exact hcv.1, by rw [hceq]; exact hcv.2.1, by rw [hceq]; exact hcv.2.2⟩, hceq⟩
/-- twice a number and one -/
def twF (z : Int) : Nat := fop .add .f32 (fop .mul .f32 1073741824 (qF z)) 1065353216
theorem q_fx {z : Int} (h1 : -16 ≤ z) (h2 : z ≤ 16) : qF z = fx z 2 ∧ floatBits .mul .f32 1073741824 (qF z) = some (fop .mul .f32 1073741824 (qF z)) ∧ floatBits .add .f32 (fop .mul .f32 1073741824 (qF z)) 1065353216 = some (twF z) ∧ twF z = fx (2 * z + 4) 2 := by
  have h := all_lt (p := fun j => (qF ((j : Int) - 16) == fx ((j : Int) - 16) 2) && ((floatBits .mul .f32 1073741824 (qF ((j : Int) - 16)) == some (fop .mul .f32 1073741824 (qF ((j : Int) - 16)))) && ((floatBits .add .f32 (fop .mul .f32 1073741824 (qF ((j : Int) - 16))) 1065353216 == some (twF ((j : Int) - 16))) && (twF ((j : Int) - 16) == fx (2 * ((j : Int) - 16) + 4) 2)))) (n := 33) (by decide +kernel) (j := (z + 16).toNat) (by omega)
  rw [show (((z + 16).toNat : Nat) : Int) - 16 = z from by omega] at h
  simp only [Bool.and_eq_true, beq_iff_eq] at h
  exact h
theorem ros_no {xs : List Nat} {ds : List Int} (h1 : rosIn xs = true) (h2 : rosS xs = rz ds) (h0 : sz ds = 0) : rosB xs = false ∧ rosR xs = 0 := by
  have hr : gtB (rz ds) = false := by
    unfold rz
    rw [h0, fx_zero]
    decide +kernel
  have hs : spOk xs = false := by unfold spOk; rw [h2, hr]; rfl
  unfold rosB rosR spB spR
  rw [h1, hs]
  exact ⟨rfl, rfl⟩
theorem ros_yes {xs : List Nat} {ds : List Int} (h1 : rosIn xs = true) (h2 : rosS xs = rz ds) (h3 : rosC xs = cz ds) (h : RosV ds) : rosB xs = true ∧ rosR xs = cz ds := by
  have hs : spOk xs = true := by unfold spOk; rw [h2, h.gt, h.fi]; rfl
  unfold rosB rosR spB spR
  rw [h1, hs, h3, h.is.fin]
  refine ⟨rfl, ?_⟩
  rw [if_pos rfl, if_pos rfl]
  unfold numV
  rw [h.is.fin, if_pos rfl]
/-- both lists have the same ratio -/
theorem ros_law {zs : List Int} (h8 : zs.length = 8) (hb : ∀ z ∈ zs, -16 ≤ z ∧ z ≤ 16) : rosB (zs.map twF) = rosB (zs.map qF) ∧ rosR (zs.map twF) = rosR (zs.map qF) ∧ (rosB (zs.map qF) = true → Is .f32 (rosR (zs.map qF)) ∧ 0 < vl .f32 (rosR (zs.map qF)) ∧ vl .f32 (rosR (zs.map qF)) ≤ 20000000000) := by
  have e1 : zs.map qF = zs.map (fx · 2) := List.map_congr_left fun z hz => (q_fx (hb z hz).1 (hb z hz).2).1
  have e2 : zs.map twF = (zs.map fun y => 2 * y + 4).map (fx · 2) := by
    rw [List.map_map]
    exact List.map_congr_left fun z hz => (q_fx (hb z hz).1 (hb z hz).2).2.2.2
  rw [e1, e2]
  obtain ⟨a1, a2, a3, a4, a5⟩ := ros_form h8 (fun z hz => by have := hb z hz; omega)
  obtain ⟨b1, b2, b3, b4, b5⟩ := ros_form (ys := zs.map fun y => 2 * y + 4) (by rw [List.length_map, h8]) (fun y hy => by
    obtain ⟨z, hz, rfl⟩ := List.mem_map.1 hy
    have := hb z hz
    omega)
  rw [dz_two h8] at b2 b3
  by_cases h0 : sz (dz zs) = 0
  · obtain ⟨c1, c2⟩ := ros_no a1 a2 h0
    obtain ⟨d1, d2⟩ := ros_no b1 b2 (by rw [sz_two, h0]; rfl)
    rw [c1, c2, d1, d2]
    exact ⟨rfl, rfl, fun h => by cases h⟩
  · obtain ⟨v1, v2, v3⟩ := cz_two a4 a5 h0
    obtain ⟨c1, c2⟩ := ros_yes a1 a2 a3 v1
    obtain ⟨d1, d2⟩ := ros_yes b1 b2 b3 v2
    rw [c1, c2, d1, d2, v3]
    exact ⟨rfl, rfl, fun _ => ⟨v1.is, v1.pos, v1.hi⟩⟩
/-- what the law asks of two ratios that are the same -/
structure RatioAt (r : Nat) : Prop where
  le : (FloatKind.f32.format.order r 0 == some .lt || FloatKind.f32.format.order r 0 == some .eq) = false
  cv : floatToFloatBits .f32 r .f64 = some (wid r)
  is : Is .f64 (wid r)
  gp : ab (vl .f64 (wid r) - vl .f64 (wid r)) < tw 100
  ad : floatBits .add .f64 4607182418800017408 (wid r) = some (fop .add .f64 4607182418800017408 (wid r))
  ml : floatBits .mul .f64 4562254508917369340 (fop .add .f64 4607182418800017408 (wid r)) = some (fop .mul .f64 4562254508917369340 (fop .add .f64 4607182418800017408 (wid r)))
  gt : (FloatKind.f64.format.order (gapF (wid r) (wid r)) (fop .mul .f64 4562254508917369340 (fop .add .f64 4607182418800017408 (wid r))) == some .gt) = false
theorem one64 : Is .f64 4607182418800017408 ∧ vl .f64 4607182418800017408 = 1 := ⟨⟨_, _, _, rfl⟩, by decide +kernel⟩
theorem ratio_at {r : Nat} (h : Is .f32 r) (h1 : 0 < vl .f32 r) (h2 : vl .f32 r ≤ 20000000000) : RatioAt r := by
  obtain ⟨w1, w2, w3⟩ := wid_v h
  obtain ⟨o1, o2⟩ := one64
  obtain ⟨c1, c2, c3⟩ := c001
  obtain ⟨z1, z2⟩ := zero_is
  have hz : In (vl .f64 (wid r) - vl .f64 (wid r)) 0 := by unfold In; grind
  obtain ⟨g1, _, g3, g4, g5, _⟩ := gap_v w2 w2 hz (by decide +kernel)
  have ha := add_g64 o1 w2 (b := 20000000001) (by rw [o2, w3]; unfold In; grind) (by decide +kernel)
  have a1 := ha.lo
  have a2 := ha.hi
  rw [o2, w3] at a1 a2
  have hm1 : 9 / 10 * (999999 / 1000000000) ≤ vl .f64 4562254508917369340 * vl .f64 (fop .add .f64 4607182418800017408 (wid r)) := by
    have p1 := mul_up c2 (show 0 ≤ vl .f64 (fop .add .f64 4607182418800017408 (wid r)) by grind)
    grind
  have hm2 : vl .f64 4562254508917369340 * vl .f64 (fop .add .f64 4607182418800017408 (wid r)) ≤ 100000000 := by
    have p1 := mul_up c3 (show 0 ≤ vl .f64 (fop .add .f64 4607182418800017408 (wid r)) by grind)
    grind
  have hm := mul_g64 c1 ha.num (b := 100000000) (by unfold In; grind) (by decide +kernel)
  have m1 := hm.lo
  refine ⟨?_, w1, w2, g1, ha.some, hm.some, ?_⟩
  · obtain ⟨q1, q2, q3⟩ := order_v h z1
    rw [q1, q3, z2]
    simp
    constructor <;> grind
  · rw [(order_v g3 hm.num).2.1, decide_eq_false_iff_not]
    have e : ab (vl .f64 (wid r) - vl .f64 (wid r)) = 0 := by
      rw [show vl .f64 (wid r) - vl .f64 (wid r) = 0 by grind]; rfl
    rw [e] at g5
    grind
end Go.Proofs.Ytikleaiflmoffaa
