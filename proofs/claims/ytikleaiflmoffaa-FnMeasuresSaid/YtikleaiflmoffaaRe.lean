/- Rat0, Rat1, Rat2, Real, Bits, Real2 -/
import Derived.Test.YtikleaiflmoffaaBa
import Derived.Test.YtikleaiflmoffaaBo
import Derived.Laws.Cover2
-- Numbers as fractions: what a float's number is, and how far a result is from the exact one.
namespace Go.Proofs.Ytikleaiflmoffaa
open Ieee
/-- a power of two -/
def tw (p : Int) : Rat := (2 : Rat) ^ p
theorem tw_add (p q : Int) : tw (p + q) = tw p * tw q := Rat.zpow_add (by decide) p q
theorem tw_pos (p : Int) : 0 < tw p := Rat.zpow_pos (by decide)
theorem tw_nat (n : Nat) : tw n = ((2 ^ n : Nat) : Rat) := by
  unfold tw
  rw [Rat.zpow_natCast, Rat.natCast_pow]
  rfl
theorem tw_one (p : Int) : tw (p + 1) = 2 * tw p := by
  rw [tw_add, show tw 1 = 2 from by decide +kernel, Rat.mul_comm]
theorem one_le_tw (n : Nat) : 1 ≤ tw n := by
  rw [tw_nat]
  have h : ((1 : Nat) : Rat) ≤ ((2 ^ n : Nat) : Rat) := Rat.natCast_le_natCast.2 Nat.one_le_two_pow
  exact h
theorem mul_up {a b c : Rat} (h : a ≤ b) (hc : 0 ≤ c) : a * c ≤ b * c := Rat.mul_le_mul_of_nonneg_right h hc
theorem mul_up' {a b c : Rat} (h : a ≤ b) (hc : 0 ≤ c) : c * a ≤ c * b := Rat.mul_le_mul_of_nonneg_left h hc
theorem tw_mono {p q : Int} (h : p ≤ q) : tw p ≤ tw q := by
  have h1 := one_le_tw (q - p).toNat
  have h2 : tw q = tw ((q - p).toNat : Int) * tw p := by rw [← tw_add]; congr 1; omega
  have h3 := mul_up h1 (Rat.le_of_lt (tw_pos p))
  grind
/-- a number with its sign -/
def sg (s : Bool) (x : Rat) : Rat := if s then -x else x
def val : Datum → Rat
  | .number s m p => sg s ((m : Rat) * tw p)
  | _ => 0
theorem sg_neg (s : Bool) (x : Rat) : sg (!s) x = - sg s x := by cases s <;> simp [sg]
theorem sg_mul (s t : Bool) (x y : Rat) : sg (s ^^ t) (x * y) = sg s x * sg t y := by
  cases s <;> cases t <;> simp [sg] <;> grind
theorem val_opp (d : Datum) : val d.opposite = - val d := by
  cases d with
  | nan s t => show (0 : Rat) = -0; decide +kernel
  | infinity s => show (0 : Rat) = -0; decide +kernel
  | number s m p => exact sg_neg s _
theorem cast_signed (s : Bool) (m u : Nat) : ((signed s m u : Int) : Rat) = sg s ((m : Rat) * tw u) := by
  unfold signed sg
  rw [Nat.shiftLeft_eq, tw_nat]
  cases s
  · rw [if_neg (by decide), if_neg (by decide), Rat.intCast_natCast, Rat.natCast_mul]
  · rw [if_pos rfl, if_pos rfl, Rat.intCast_neg, Rat.intCast_natCast, Rat.natCast_mul]
theorem at_base {m : Nat} {p base : Int} (h : base ≤ p) : (m : Rat) * tw p = (m : Rat) * tw ((p - base).toNat : Int) * tw base := by
  rw [Rat.mul_assoc, ← tw_add]
  congr 2
  omega
theorem sg_assoc (s : Bool) (x y : Rat) : sg s (x * y) = sg s x * y := by cases s <;> simp [sg] <;> grind
theorem val_int (t : Int) (b : Bool) (place : Int) : val (.number (if t = 0 then b else t < 0) t.natAbs place) = (t : Rat) * tw place := by
  show sg _ _ = _
  rw [sg_assoc]
  congr 1
  by_cases h0 : t = 0
  · subst h0; cases b <;> simp [sg]
  · rw [if_neg h0]
    by_cases h : t < 0
    · obtain ⟨n, hn⟩ : ∃ n : Nat, t = -(n : Int) := ⟨t.natAbs, by omega⟩
      subst hn
      simp only [h, decide_true, sg, if_true, Int.natAbs_neg, Int.natAbs_natCast]
      rw [Rat.intCast_neg, Rat.intCast_natCast]
    · obtain ⟨n, hn⟩ : ∃ n : Nat, t = (n : Int) := ⟨t.natAbs, by omega⟩
      subst hn
      simp only [h, decide_false, sg, Bool.false_eq_true, if_false, Int.natAbs_natCast]
      rw [Rat.intCast_natCast]
theorem val_sum {d e r : Datum} (hd : ∃ s m p, d = .number s m p) (he : ∃ s m p, e = .number s m p) (h : d.sum e = some r) : val r = val d + val e ∧ ∃ s m p, r = .number s m p := by
  obtain ⟨s, m, i, rfl⟩ := hd
  obtain ⟨t, n, j, rfl⟩ := he
  unfold Datum.sum at h
  dsimp only at h
  rw [Option.some.injEq] at h
  refine ⟨?_, _, _, _, h.symm⟩
  rw [← h, val_int, Rat.intCast_add, cast_signed, cast_signed]
  show _ = sg s _ + sg t _
  rw [at_base (m := m) (Int.min_le_left i j), at_base (m := n) (Int.min_le_right i j)]
  generalize (i - min i j).toNat = u, (j - min i j).toNat = v, min i j = b
  simp only [sg_assoc]
  grind
theorem val_prod {d e r : Datum} (hd : ∃ s m p, d = .number s m p) (he : ∃ s m p, e = .number s m p) (h : d.product e = some r) : val r = val d * val e ∧ ∃ s m p, r = .number s m p := by
  obtain ⟨s, m, i, rfl⟩ := hd
  obtain ⟨t, n, j, rfl⟩ := he
  unfold Datum.product at h
  dsimp only at h
  rw [Option.some.injEq] at h
  refine ⟨?_, _, _, _, h.symm⟩
  rw [← h]
  show sg _ _ = sg s _ * sg t _
  rw [← sg_mul, tw_add, Rat.natCast_mul]
  congr 1
  grind
end Go.Proofs.Ytikleaiflmoffaa

-- How far the nearest number is from the exact one.
namespace Go.Proofs.Ytikleaiflmoffaa
open Ieee
theorem cut_near (neg : Bool) (n d : Nat) : 2 * (Toward.even.cut neg n d * 2 ^ d) ≤ 2 * n + 2 ^ d ∧ 2 * n ≤ 2 * (Toward.even.cut neg n d * 2 ^ d) + 2 ^ d := by
  unfold Toward.cut
  simp only [Nat.one_shiftLeft]
  by_cases hd : d ≤ n.log2 + 2
  · rw [Nat.min_eq_left hd]
    have h1 := Nat.div_add_mod n (2 ^ d)
    have h2 := Nat.mod_lt n (Nat.two_pow_pos d)
    rw [Nat.mul_comm] at h1
    rw [Nat.add_mul]
    generalize n / 2 ^ d * 2 ^ d = q at *
    cases hb : (decide (2 ^ d < 2 * (n % 2 ^ d)) || (2 ^ d == 2 * (n % 2 ^ d) && n / 2 ^ d % 2 == 1))
    · simp only [Bool.toNat_false, Nat.zero_mul]
      simp only [Bool.or_eq_false_iff, decide_eq_false_iff_not] at hb
      omega
    · simp only [Bool.toNat_true, Nat.one_mul]
      simp only [Bool.or_eq_true, decide_eq_true_eq, Bool.and_eq_true, beq_iff_eq] at hb
      omega
  · rw [Nat.min_eq_right (by omega)]
    have h0 : n < 2 ^ (n.log2 + 1) := Nat.lt_log2_self
    have h4 : 2 ^ (n.log2 + 2) = 2 * 2 ^ (n.log2 + 1) := by rw [Nat.pow_succ, Nat.mul_comm]
    have h1 : n / 2 ^ (n.log2 + 2) = 0 := Nat.div_eq_of_lt (by omega)
    have h2 : n % 2 ^ (n.log2 + 2) = n := Nat.mod_eq_of_lt (by omega)
    have h5 : 2 ^ (n.log2 + 2) ≤ 2 ^ d := Nat.pow_le_pow_right (by omega) (by omega)
    rw [h1, h2, show decide (2 ^ (n.log2 + 2) < 2 * n) = false by rw [decide_eq_false_iff_not]; omega, show (2 ^ (n.log2 + 2) == 2 * n) = false by rw [beq_eq_false_iff_ne]; omega]
    simp
    omega
theorem cut_zero (neg : Bool) (n : Nat) : Toward.even.cut neg n 0 = n := by
  have h := cut_near neg n 0
  omega
theorem kept_lowF (fb : Nat) (neg : Bool) (mag : Nat) (place last : Int) (h0 : mag ≠ 0) (hl : last = place + mag.log2 - fb) : 2 ^ fb ≤ Toward.even.cut neg (mag <<< (place - last).toNat) (last - place).toNat := by
  unfold Toward.cut
  simp only [Nat.one_shiftLeft]
  refine Nat.le_trans ?_ (Nat.le_add_right _ _)
  rw [Nat.shiftLeft_eq]
  by_cases h : last ≤ place
  · have e1 : (last - place).toNat = 0 := by omega
    rw [e1, Nat.zero_min, Nat.pow_zero, Nat.div_one]
    have h1 : 2 ^ mag.log2 * 2 ^ (place - last).toNat ≤ mag * 2 ^ (place - last).toNat := Nat.mul_le_mul_right _ (pow_le h0)
    rw [← Nat.pow_add] at h1
    exact Nat.le_trans (Nat.pow_le_pow_right (by omega) (by omega)) h1
  · have e1 : (place - last).toNat = 0 := by omega
    rw [e1, Nat.pow_zero, Nat.mul_one, Nat.min_eq_left (by omega), Nat.le_div_iff_mul_le (Nat.two_pow_pos _), ← Nat.pow_add]
    exact Nat.le_trans (Nat.pow_le_pow_right (by omega) (by omega)) (pow_le h0)
/-- what is read of the nearest word -/
theorem nearest_read (f : Format) (neg : Bool) (mag : Nat) (place last : Int) (h0 : mag ≠ 0) (hlast : last = max (place + mag.log2 - f.fractionBits) f.leastPlace) (hE : ((last - f.leastPlace).toNat + 2) * f.binade < f.infRung) :
    ∃ m p, f.read (f.nearest neg mag place) = .number neg m p ∧ (m : Rat) * tw p = ((Toward.even.cut neg (mag <<< (place - last).toNat) (last - place).toNat : Nat) : Rat) * tw last := by
  have hb := binade_pos f
  obtain ⟨kept, hk⟩ : ∃ kept, kept = Toward.even.cut neg (mag <<< (place - last).toNat) (last - place).toNat := ⟨_, rfl⟩
  have hup : kept ≤ 2 ^ (f.fractionBits + 1) := by rw [hk]; exact kept_le f.fractionBits neg mag place last h0 (by omega)
  have h2 : 2 ^ (f.fractionBits + 1) = 2 * f.binade := by unfold Format.binade; rw [Nat.pow_succ, Nat.mul_comm]
  rw [h2] at hup
  obtain ⟨L, hL⟩ : ∃ L : Nat, L = (last - f.leastPlace).toNat := ⟨_, rfl⟩
  have hlow : 0 < L → f.binade ≤ kept := fun h => by rw [hk]; exact kept_lowF f.fractionBits neg mag place last h0 (by omega)
  have hn : f.nearest neg mag place = f.word neg (min (L * f.binade + kept) f.infRung) := by
    unfold Format.nearest
    rw [if_neg h0]
    dsimp only
    rw [← hlast, ← hk, ← hL]
  rw [← hL, Nat.add_mul] at hE
  rw [← hk, hn, Nat.min_eq_left (by omega), read_word f neg (by have := f.infRung_lt; omega)]
  by_cases h1 : L * f.binade + kept < f.binade
  · have hL0 : L = 0 := by
      rcases Nat.eq_zero_or_pos L with h | h
      · exact h
      · have := Nat.mul_le_mul_right f.binade h; omega
    rw [if_pos h1]
    refine ⟨_, _, rfl, ?_⟩
    rw [hL0, Nat.zero_mul, Nat.zero_add]
    congr 2
    omega
  · rw [if_neg h1, if_pos (by omega)]
    refine ⟨_, _, rfl, ?_⟩
    have hlow' : f.binade ≤ kept := by
      rcases Nat.eq_zero_or_pos L with h | h
      · subst h; omega
      · exact hlow h
    by_cases hc : kept < 2 * f.binade
    · have hd : (L * f.binade + kept) / f.binade = L + 1 := by
        rw [Nat.mul_comm, Nat.mul_add_div hb]
        congr 1
        exact Nat.div_eq_of_lt_le (by omega) (by omega)
      have hm : (L * f.binade + kept) % f.binade = kept - f.binade := by
        rw [Nat.mul_comm, Nat.mul_add_mod, Nat.mod_eq_sub_mod hlow', Nat.mod_eq_of_lt (by omega)]
      rw [hd, hm, show f.binade + (kept - f.binade) = kept from by omega]
      congr 2
      omega
    · have hk2 : kept = 2 * f.binade := by omega
      have hd : (L * f.binade + kept) / f.binade = L + 2 := by
        rw [hk2, ← Nat.add_mul, Nat.mul_div_cancel _ hb]
      have hm : (L * f.binade + kept) % f.binade = 0 := by
        rw [hk2, ← Nat.add_mul, Nat.mul_mod_left]
      rw [hd, hm, hk2, show f.leastPlace + ((L + 2 - 1 : Nat) : Int) = last + 1 from by omega, tw_one, Nat.add_zero, Rat.natCast_mul]
      grind
/-- x is no farther than e from y -/
def Near (x y e : Rat) : Prop := x - y ≤ e ∧ y - x ≤ e
theorem near_sg {x y e : Rat} (s : Bool) (h : Near x y e) : Near (sg s x) (sg s y) e := by
  unfold Near sg at *
  cases s <;> simp <;> grind
theorem near_cut (neg : Bool) (mag : Nat) (place last : Int) :
    Near (((Toward.even.cut neg (mag <<< (place - last).toNat) (last - place).toNat : Nat) : Rat) * tw last) ((mag : Rat) * tw place) (tw (last - 1)) := by
  have hp := tw_pos (last - 1)
  by_cases h : last ≤ place
  · have e1 : (last - place).toNat = 0 := by omega
    rw [e1, cut_zero, Nat.shiftLeft_eq, Rat.natCast_mul, ← tw_nat, Rat.mul_assoc, ← tw_add, show ((place - last).toNat : Int) + last = place from by omega]
    unfold Near
    grind
  · have e1 : (place - last).toNat = 0 := by omega
    rw [e1, Nat.shiftLeft_zero]
    obtain ⟨d, hd⟩ : ∃ d : Nat, d = (last - place).toNat := ⟨_, rfl⟩
    obtain ⟨h1, h2⟩ := cut_near neg mag (last - place).toNat
    rw [← hd] at h1 h2 ⊢
    generalize Toward.even.cut neg mag d = c at *
    have e2 : tw last = ((2 ^ d : Nat) : Rat) * tw place := by rw [← tw_nat, ← tw_add]; congr 1; omega
    have e3 : tw last = 2 * tw (last - 1) := by rw [← tw_one]; congr 1; omega
    have h1' := mul_up (Rat.natCast_le_natCast.2 h1) (Rat.le_of_lt (tw_pos place))
    have h2' := mul_up (Rat.natCast_le_natCast.2 h2) (Rat.le_of_lt (tw_pos place))
    rw [Rat.natCast_add, Rat.natCast_mul, Rat.natCast_mul, Rat.natCast_mul] at h1' h2'
    unfold Near
    generalize ((2 ^ d : Nat) : Rat) = D at *
    have e4 : ((2 : Nat) : Rat) = 2 := rfl
    rw [e4] at h1' h2'
    generalize tw place = T, tw last = L, tw (last - 1) = H, (c : Rat) = C, (mag : Rat) = G at *
    have k1 : 2 * (C * D) * T = 2 * (C * L) := by rw [e2]; grind
    have k2 : (2 * G + D) * T = 2 * (G * T) + L := by rw [e2]; grind
    have k3 : (2 * (C * D) + D) * T = 2 * (C * L) + L := by rw [e2]; grind
    have k4 : 2 * G * T = 2 * (G * T) := by grind
    rw [k1, k2] at h1'
    rw [k3, k4] at h2'
    generalize C * L = X, G * T = Y at *
    grind
end Go.Proofs.Ytikleaiflmoffaa

-- How far sums, products and conversions are from the exact ones; what comparisons tell.
namespace Go.Proofs.Ytikleaiflmoffaa
open Ieee
/-- the size of a number -/
def ab (x : Rat) : Rat := if x < 0 then -x else x
theorem ab_sg (s : Bool) {x : Rat} (h : 0 ≤ x) : ab (sg s x) = x := by
  unfold ab sg
  cases s
  · simp; grind
  · simp; grind
theorem mag_nonneg (m : Nat) (p : Int) : 0 ≤ (m : Rat) * tw p := Rat.mul_nonneg (by exact_mod_cast Nat.zero_le m) (Rat.le_of_lt (tw_pos p))
/-- what a format's last digit leaves open -/
def ulp (k : FloatKind) (x : Rat) : Rat := ab x * tw (-(k.format.fractionBits + 1 : Int)) + tw (k.format.leastPlace - 1)
theorem fits_val {k : FloatKind} {d : Datum} {E : Int} (h : Fits d E) (hE : E < topE k) : ∃ s m p, k.format.read (k.format.write d) = .number s m p ∧ Near (val (.number s m p)) (val d) (ulp k (val d)) := by
  obtain ⟨s, m, p, rfl, h⟩ := h
  by_cases h0 : m = 0
  · subst h0
    refine ⟨s, 0, k.format.leastPlace, ?_, ?_⟩
    · show k.format.read (k.format.nearest s 0 p) = _
      unfold Format.nearest
      rw [if_pos rfl, read_word _ s (Nat.two_pow_pos _), if_pos (binade_pos _)]
    · have hz : ∀ q, val (.number s 0 q) = 0 := fun q => by show sg s (((0 : Nat) : Rat) * tw q) = 0; rw [show ((0 : Nat) : Rat) = 0 from rfl, Rat.zero_mul]; cases s <;> simp [sg]
      rw [hz, hz]
      have h1 := tw_pos (k.format.leastPlace - 1)
      unfold Near ulp ab
      simp
      grind
  · obtain ⟨last, hlast⟩ : ∃ last, last = max (p + m.log2 - k.format.fractionBits) k.format.leastPlace := ⟨_, rfl⟩
    have h1 := h.resolve_left h0
    obtain ⟨m', p', hr, hv⟩ := nearest_read k.format s m p last h0 hlast (by
      cases k
      · obtain ⟨a, b, c, d⟩ := fmt32
        rw [a, b, c]
        rw [c, d] at hlast
        unfold topE at hE
        dsimp only at hE
        omega
      · obtain ⟨a, b, c, d⟩ := fmt64
        rw [a, b, c]
        rw [c, d] at hlast
        unfold topE at hE
        dsimp only at hE
        omega)
    refine ⟨s, m', p', hr, ?_⟩
    show Near (sg s _) (sg s _) (ulp k (sg s _))
    rw [hv]
    refine near_sg s ?_
    have hc := near_cut s m p last
    have hle : tw (last - 1) ≤ ulp k (sg s ((m : Rat) * tw p)) := by
      unfold ulp
      rw [ab_sg s (mag_nonneg m p)]
      have g1 := tw_pos (k.format.leastPlace - 1)
      have g2 : 0 ≤ (m : Rat) * tw p * tw (-(k.format.fractionBits + 1 : Int)) := Rat.mul_nonneg (mag_nonneg m p) (Rat.le_of_lt (tw_pos _))
      by_cases hl : p + m.log2 - k.format.fractionBits ≤ k.format.leastPlace
      · have : last = k.format.leastPlace := by omega
        rw [this]
        grind
      · have e1 : last - 1 = (m.log2 : Int) + p + (-(k.format.fractionBits + 1 : Int)) := by omega
        have g3 : ((2 ^ m.log2 : Nat) : Rat) ≤ (m : Rat) := Rat.natCast_le_natCast.2 (pow_le h0)
        rw [← tw_nat] at g3
        have g4 := mul_up (mul_up g3 (Rat.le_of_lt (tw_pos p))) (Rat.le_of_lt (tw_pos (-(k.format.fractionBits + 1 : Int))))
        rw [← tw_add, ← tw_add, ← e1] at g4
        grind
    unfold Near at hc ⊢
    grind
/-- the number of a word -/
def vl (k : FloatKind) (x : Nat) : Rat := val (k.format.read x)
theorem vl_fop {op : BinOp} {k : FloatKind} {x y : Nat} {r : Datum} {E : Int} (h : floatBits op k x y = some (k.format.write r)) (hr : Fits r E) (hE : E < topE k) : Near (vl k (fop op k x y)) (val r) (ulp k (val r)) := by
  obtain ⟨s, m, p, h1, h2⟩ := fits_val hr hE
  unfold vl
  rw [fop_some h, h1]
  exact h2
theorem fits_is {d : Datum} {E : Int} (h : Fits d E) : ∃ s m p, d = .number s m p := by
  obtain ⟨s, m, p, h, _⟩ := h
  exact ⟨s, m, p, h⟩
theorem vl_add {k : FloatKind} {x y : Nat} {E : Int} (hx : Fits (k.format.read x) E) (hy : Fits (k.format.read y) E) (hE : E + 1 < topE k) : Near (vl k (fop .add k x y)) (vl k x + vl k y) (ulp k (vl k x + vl k y)) := by
  obtain ⟨r, hr, hf⟩ := fits_sum hx hy
  obtain ⟨h1, _⟩ := val_sum (fits_is hx) (fits_is hy) hr
  unfold vl
  rw [← h1]
  exact vl_fop (op := .add) (x := x) (y := y) (by unfold floatBits Format.add; dsimp only; rw [hr]; rfl) hf hE
theorem vl_sub {k : FloatKind} {x y : Nat} {E : Int} (hx : Fits (k.format.read x) E) (hy : Fits (k.format.read y) E) (hE : E + 1 < topE k) : Near (vl k (fop .sub k x y)) (vl k x - vl k y) (ulp k (vl k x - vl k y)) := by
  obtain ⟨r, hr, hf⟩ := fits_sum hx (fits_opp hy)
  obtain ⟨h1, _⟩ := val_sum (fits_is hx) (fits_is (fits_opp hy)) hr
  rw [val_opp, ← Rat.sub_eq_add_neg] at h1
  unfold vl
  rw [← h1]
  exact vl_fop (op := .sub) (x := x) (y := y) (by unfold floatBits Format.sub; dsimp only; rw [hr]; rfl) hf hE
theorem vl_mul {k : FloatKind} {x y : Nat} {E E' : Int} (hx : Fits (k.format.read x) E) (hy : Fits (k.format.read y) E') (hE : E + E' + 1 < topE k) : Near (vl k (fop .mul k x y)) (vl k x * vl k y) (ulp k (vl k x * vl k y)) := by
  obtain ⟨r, hr, hf⟩ := fits_prod hx hy
  obtain ⟨h1, _⟩ := val_prod (fits_is hx) (fits_is hy) hr
  unfold vl
  rw [← h1]
  exact vl_fop (op := .mul) (x := x) (y := y) (by unfold floatBits Format.mul; dsimp only; rw [hr]; rfl) hf hE
end Go.Proofs.Ytikleaiflmoffaa

-- Finite floats as fractions: sums, differences, products, quotients, conversions, comparisons.
namespace Go.Proofs.Ytikleaiflmoffaa
open Ieee
/-- a finite number -/
def Is (k : FloatKind) (x : Nat) : Prop := ∃ s m p, k.format.read x = .number s m p
theorem ab_nonneg (x : Rat) : 0 ≤ ab x := by unfold ab; split <;> grind
theorem le_ab (x : Rat) : x ≤ ab x := by unfold ab; split <;> grind
theorem neg_le_ab (x : Rat) : -x ≤ ab x := by unfold ab; split <;> grind
theorem ab_le {x b : Rat} (h1 : x ≤ b) (h2 : -x ≤ b) : ab x ≤ b := by unfold ab; split <;> grind
theorem tw_lt {p q : Int} (h : tw p < tw q) : p < q := by
  apply Classical.byContradiction
  intro hn
  have := tw_mono (show q ≤ p by omega)
  grind
theorem fit_val {d : Datum} {E : Int} (hd : ∃ s m p, d = .number s m p) (h : ab (val d) < tw (E + 1)) : Fits d E := by
  obtain ⟨s, m, p, rfl⟩ := hd
  refine ⟨s, m, p, rfl, ?_⟩
  by_cases h0 : m = 0
  · exact .inl h0
  · right
    have h1 : ab (val (.number s m p)) = (m : Rat) * tw p := ab_sg s (mag_nonneg m p)
    rw [h1] at h
    have g3 : ((2 ^ m.log2 : Nat) : Rat) ≤ (m : Rat) := Rat.natCast_le_natCast.2 (pow_le h0)
    rw [← tw_nat] at g3
    have g4 := mul_up g3 (Rat.le_of_lt (tw_pos p))
    rw [← tw_add] at g4
    have := tw_lt (p := (m.log2 : Int) + p) (q := E + 1) (by grind)
    omega
/-- what is not below nought is not written as a number below it -/
theorem write_nn {k : FloatKind} {d : Datum} {E : Int} (h : Fits d E) (hE : E < topE k) (h0 : 0 ≤ val d) : 0 ≤ val (k.format.read (k.format.write d)) := by
  obtain ⟨s, m, p, rfl, h⟩ := h
  by_cases hm : m = 0
  · subst hm
    have e : k.format.read (k.format.write (.number s 0 p)) = .number s 0 k.format.leastPlace := by
      show k.format.read (k.format.nearest s 0 p) = _
      unfold Format.nearest
      rw [if_pos rfl, read_word _ s (Nat.two_pow_pos _), if_pos (binade_pos _)]
    rw [e]
    show 0 ≤ sg s (((0 : Nat) : Rat) * tw _)
    rw [show ((0 : Nat) : Rat) = 0 from rfl, Rat.zero_mul]
    cases s <;> simp [sg]
  · obtain ⟨last, hlast⟩ : ∃ last, last = max (p + m.log2 - k.format.fractionBits) k.format.leastPlace := ⟨_, rfl⟩
    have h1 := h.resolve_left hm
    obtain ⟨m', p', hr, hv⟩ := nearest_read k.format s m p last hm hlast (by
      cases k
      · obtain ⟨a, b, c, d⟩ := fmt32
        rw [a, b, c]
        rw [c, d] at hlast
        unfold topE at hE
        dsimp only at hE
        omega
      · obtain ⟨a, b, c, d⟩ := fmt64
        rw [a, b, c]
        rw [c, d] at hlast
        unfold topE at hE
        dsimp only at hE
        omega)
    rw [show k.format.write (.number s m p) = k.format.nearest s m p from rfl, hr]
    cases s
    · exact mag_nonneg m' p'
    · exfalso
      have h2 : (0 : Rat) < (m : Rat) * tw p := Rat.mul_pos (Rat.natCast_lt_natCast.2 (Nat.pos_of_ne_zero hm)) (tw_pos p)
      have h3 : val (.number true m p) = -((m : Rat) * tw p) := rfl
      rw [h3] at h0
      grind
/-- what is told of an operation's result -/
structure Op (k : FloatKind) (op : BinOp) (x y : Nat) (v e : Rat) : Prop where
  nn : 0 ≤ v → 0 ≤ vl k (fop op k x y)
  some : floatBits op k x y = some (fop op k x y)
  num : Is k (fop op k x y)
  near : Near (vl k (fop op k x y)) v e
theorem op_of {k : FloatKind} {op : BinOp} {x y : Nat} {r : Datum} (h : floatBits op k x y = some (k.format.write r)) (hr : ∃ s m p, r = .number s m p) (hb : ab (val r) < tw 100) : Op k op x y (val r) (ulp k (val r)) := by
  have hf : Fits r 99 := fit_val hr hb
  obtain ⟨s, m, p, h1, h2⟩ := fits_val hf (show (99 : Int) < topE k by cases k <;> decide)
  refine ⟨fun h0 => by unfold vl; rw [fop_some h]; exact write_nn hf (show (99 : Int) < topE k by cases k <;> decide) h0, by rw [fop_some h]; exact h, ?_, ?_⟩
  · rw [fop_some h]; exact ⟨s, m, p, h1⟩
  · unfold vl; rw [fop_some h, h1]; exact h2
theorem add_v {k : FloatKind} {x y : Nat} (hx : Is k x) (hy : Is k y) (hb : ab (vl k x + vl k y) < tw 100) : Op k .add x y (vl k x + vl k y) (ulp k (vl k x + vl k y)) := by
  obtain ⟨s, m, p, h1⟩ := hx
  obtain ⟨t, n, q, h2⟩ := hy
  obtain ⟨r, hr⟩ : ∃ r, (Datum.number s m p).sum (.number t n q) = some r := ⟨_, rfl⟩
  obtain ⟨e1, e2⟩ := val_sum ⟨_, _, _, rfl⟩ ⟨_, _, _, rfl⟩ hr
  have e3 : vl k x + vl k y = val r := by unfold vl; rw [h1, h2, e1]
  rw [e3] at hb ⊢
  exact op_of (by unfold floatBits Format.add; dsimp only; rw [h1, h2, hr]; rfl) e2 hb
theorem sub_v {k : FloatKind} {x y : Nat} (hx : Is k x) (hy : Is k y) (hb : ab (vl k x - vl k y) < tw 100) : Op k .sub x y (vl k x - vl k y) (ulp k (vl k x - vl k y)) := by
  obtain ⟨s, m, p, h1⟩ := hx
  obtain ⟨t, n, q, h2⟩ := hy
  obtain ⟨r, hr⟩ : ∃ r, (Datum.number s m p).sum (.number (!t) n q) = some r := ⟨_, rfl⟩
  obtain ⟨e1, e2⟩ := val_sum ⟨_, _, _, rfl⟩ ⟨_, _, _, rfl⟩ hr
  have e4 : val (.number (!t) n q) = - val (.number t n q) := val_opp (.number t n q)
  have e3 : vl k x - vl k y = val r := by unfold vl; rw [h1, h2, e1, e4, Rat.sub_eq_add_neg]
  rw [e3] at hb ⊢
  exact op_of (by unfold floatBits Format.sub; dsimp only; rw [h1, h2, show (Datum.number t n q).opposite = .number (!t) n q from rfl, hr]; rfl) e2 hb
theorem mul_v {k : FloatKind} {x y : Nat} (hx : Is k x) (hy : Is k y) (hb : ab (vl k x * vl k y) < tw 100) : Op k .mul x y (vl k x * vl k y) (ulp k (vl k x * vl k y)) := by
  obtain ⟨s, m, p, h1⟩ := hx
  obtain ⟨t, n, q, h2⟩ := hy
  obtain ⟨r, hr⟩ : ∃ r, (Datum.number s m p).product (.number t n q) = some r := ⟨_, rfl⟩
  obtain ⟨e1, e2⟩ := val_prod ⟨_, _, _, rfl⟩ ⟨_, _, _, rfl⟩ hr
  have e3 : vl k x * vl k y = val r := by unfold vl; rw [h1, h2, e1]
  rw [e3] at hb ⊢
  exact op_of (by unfold floatBits Format.mul; dsimp only; rw [h1, h2, hr]; rfl) e2 hb
theorem Is.fin {x : Nat} (h : Is .f32 x) : finB x = true := by
  obtain ⟨s, m, p, h⟩ := h
  exact fin_of h
theorem Is.num {k : FloatKind} {x : Nat} (h : Is k x) : nanF k x = false := by
  obtain ⟨s, m, p, h⟩ := h
  unfold nanF
  rw [h]
  rfl
theorem is_fin {x : Nat} (h : finB x = true) : Is .f32 x := fin_read h
/-- numbers compare as their values do -/
theorem int_cmp {a b : Int} {T : Rat} (hT : 0 < T) : (a < b ↔ (a : Rat) * T < (b : Rat) * T) := by
  constructor
  · intro h
    exact Rat.mul_lt_mul_of_pos_right (Rat.intCast_lt_intCast.2 h) hT
  · intro h
    apply Classical.byContradiction
    intro hn
    have := mul_up (Rat.intCast_le_intCast.2 (show b ≤ a by omega)) (Rat.le_of_lt hT)
    grind
theorem order_v {k : FloatKind} {x y : Nat} (hx : Is k x) (hy : Is k y) :
    (k.format.order x y == some .lt) = decide (vl k x < vl k y) ∧ (k.format.order x y == some .gt) = decide (vl k y < vl k x) ∧ (k.format.order x y == some .eq) = decide (vl k x = vl k y) := by
  obtain ⟨s, m, p, h1⟩ := hx
  obtain ⟨t, n, q, h2⟩ := hy
  have e1 : vl k x = ((signed s m (p - min p q).toNat : Int) : Rat) * tw (min p q) := by
    unfold vl
    rw [h1, cast_signed]
    show sg s _ = _
    rw [at_base (m := m) (Int.min_le_left p q), sg_assoc]
  have e2 : vl k y = ((signed t n (q - min p q).toNat : Int) : Rat) * tw (min p q) := by
    unfold vl
    rw [h2, cast_signed]
    show sg t _ = _
    rw [at_base (m := n) (Int.min_le_right p q), sg_assoc]
  have e3 : k.format.order x y = some (compare (signed s m (p - min p q).toNat) (signed t n (q - min p q).toNat)) := by
    unfold Format.order
    rw [h1, h2]
    rfl
  rw [e1, e2, e3]
  generalize signed s m (p - min p q).toNat = a, signed t n (q - min p q).toNat = b
  have hT := tw_pos (min p q)
  generalize tw (min p q) = T at hT
  have c1 := @int_cmp a b T hT
  have c2 := @int_cmp b a T hT
  have key : ∀ (o : Ordering) (P : Prop) [Decidable P], (compare a b = o ↔ P) → (some (compare a b) == some o) = decide P := by
    intro o P _ h
    by_cases hp : P
    · rw [h.2 hp, decide_eq_true hp]; simp
    · rw [decide_eq_false hp]
      have : compare a b ≠ o := fun he => hp (h.1 he)
      simpa using this
  refine ⟨key _ _ ?_, key _ _ ?_, key _ _ ?_⟩
  · rw [Int.compare_eq_lt, c1]
  · rw [Int.compare_eq_gt, c2]
  · rw [Int.compare_eq_eq]
    constructor
    · intro h; rw [h]
    · intro h
      have h1 : ¬ a < b := by rw [c1]; grind
      have h2 : ¬ b < a := by rw [c2]; grind
      omega
end Go.Proofs.Ytikleaiflmoffaa

-- The small functions of the laws on walks: lengths, choices, gaps, seeds, draws.
namespace Go.Proofs.Ytikleaiflmoffaa
open Ieee Go.RowKit
/-- the greater one of two floats -/
def fmax (k : FloatKind) (x y : Nat) : Nat := match k.format.order x y with | some .lt => y | some .gt => x | _ => if (k.decode x).neg then y else x
def fmin (k : FloatKind) (x y : Nat) : Nat := match k.format.order x y with | some .lt => x | some .gt => y | _ => if (k.decode x).neg then x else y
theorem run_max_f {P : Program} {k : FloatKind} {x y : Nat} (hx : Is k x) (hy : Is k y) : ∀ (ts : Array TypeId) (t : TypeId) (w : World), (Builtin.max_ ts t #[.float k x, .float k y]).run P w = .ok (.float k (fmax k x y)) w := by
  intro ts t w
  obtain ⟨s, m, p, h1⟩ := hx
  obtain ⟨t', n, q, h2⟩ := hy
  obtain ⟨o, ho⟩ : ∃ o, k.format.order x y = some o := ⟨_, by unfold Format.order; rw [h1, h2]; rfl⟩
  unfold fmax
  cases o <;> simp [Builtin.max_, Builtin.max2, ho]
set_option maxRecDepth 100000 in
theorem r8Long_any (A B : Option Addr) (n c m d : Nat) (w : World) (hn : n ≤ 9223372036854775807) (hm : m ≤ 9223372036854775807) :
    Calls Try.prog 4 #[.slice A n c, .slice B m d] w fun e w' => e = .returned (.bool (decide (48 < n) || decide (48 < m))) ∧ w' = w := by
  by_cases h1 : 48 < n
  · have h1' : (48 : Int) < (n : Int) := by omega
    rw [decide_eq_true h1]
    go_enter Try.func4, Try.ntmps4
    go_wp2
    go_ret
    exact ⟨rfl, rfl⟩
  · have h1' : ¬ (48 : Int) < (n : Int) := by omega
    rw [decide_eq_false h1]
    by_cases h2 : 48 < m
    · have h2' : (48 : Int) < (m : Int) := by omega
      rw [decide_eq_true h2]
      go_enter Try.func4, Try.ntmps4
      go_wp2
      go_ret
      exact ⟨rfl, rfl⟩
    · have h2' : ¬ (48 : Int) < (m : Int) := by omega
      rw [decide_eq_false h2]
      go_enter Try.func4, Try.ntmps4
      go_wp2
      go_ret
      exact ⟨rfl, rfl⟩
/-- a list of bytes -/
def ByteL (bs : List Int) : Prop := ∀ b ∈ bs, 0 ≤ b ∧ b < 256
set_option maxRecDepth 100000 in
theorem r8At_any (A : Option Addr) (n c : Nat) (bs : List Int) (k N : Int) (w : World) (hb : ByteL bs) (hn : bs.length = n) (_hm : n ≤ 48) (hk : 0 ≤ k) (hN : 2 ≤ N) (hN2 : N ≤ 256) (hr : Rd w w.heap.size A (bs.map (Value.int .u8))) :
    Calls Try.prog 5 #[.slice A n c, .int .i64 k, .int .i64 N] w fun e w' => (∃ z, e = .returned (.int .i64 z) ∧ 0 ≤ z ∧ z < N) ∧ w' = w := by
  have h1 : ¬ N ≤ 1 := by omega
  by_cases hlt : k < (n : Int)
  · obtain ⟨kn, rfl⟩ : ∃ kn : Nat, k = kn := ⟨k.toNat, by omega⟩
    have hge : ¬ (n : Int) ≤ (kn : Int) := by omega
    obtain ⟨ad, rfl, _, hcell⟩ := hr.at_ (k := kn) (by rw [List.length_map]; omega)
    rw [List.getElem_map] at hcell
    obtain ⟨b1, b2⟩ := hb bs[kn] (List.getElem_mem (by omega))
    obtain ⟨b, hbe⟩ : ∃ b, b = bs[kn] := ⟨_, rfl⟩
    rw [← hbe] at hcell b1 b2
    clear hbe hb hr
    have hN0 : ¬ N = 0 := by omega
    have hr1 : 0 ≤ b % N := Int.emod_nonneg _ hN0
    have hr2 : b % N < N := Int.emod_lt_of_pos _ (by omega)
    go_enter Try.func5, Try.ntmps5
    go_wp2
    go_ret
    exact ⟨⟨b % N, by first | rfl | (congr 2), hr1, hr2⟩, rfl⟩
  · have hge : (n : Int) ≤ k := by omega
    go_enter Try.func5, Try.ntmps5
    go_wp2
    go_ret
    exact ⟨⟨0, rfl, by omega, by omega⟩, rfl⟩
/-- how far two numbers are apart -/
def gapF (a b : Nat) : Nat := fmax .f64 (fop .sub .f64 a b) (fop .sub .f64 b a)
def nextS (s : Int) : Int := (1103515245 * s + 12345) % 2147483648
theorem nextS_bd (s : Int) : 0 ≤ nextS s ∧ nextS s < 2147483648 := by unfold nextS; omega
/-- what is drawn of a seed -/
def drawZ (s : Int) : Int := s / 65536 - 16384
def drawF (s : Int) : Nat := fop .quo .f32 (floatOfInt .f32 (drawZ s)) 1182793728
end Go.Proofs.Ytikleaiflmoffaa

-- Quotients, whole numbers and widened numbers as fractions.
namespace Go.Proofs.Ytikleaiflmoffaa
open Ieee
theorem le_of_mul {a b c : Rat} (hc : 0 < c) (h : a * c ≤ b * c) : a ≤ b := by
  apply Classical.byContradiction
  intro hn
  have := Rat.mul_lt_mul_of_pos_right (show b < a by grind) hc
  grind
theorem div_mul {a b : Rat} (h : b ≠ 0) : a / b * b = a := by grind
theorem eq_of_mul {a b c : Rat} (hc : 0 < c) (h : a * c = b * c) : a = b := by
  have h1 := le_of_mul hc (show a * c ≤ b * c by grind)
  have h2 := le_of_mul hc (show b * c ≤ a * c by grind)
  grind
theorem half_le {T G q H E : Rat} (h7 : T * G * 2 = 1) (h8 : T * G ≤ q * G) (l1 : 2 * (q * H) ≤ E) (hH : 0 < H) (hG : 0 < G) : H ≤ E * G := by
  have h1 := mul_up l1 (Rat.le_of_lt hG)
  have h2 := mul_up h8 (Rat.le_of_lt hH)
  have h3 : T * G = 1 / 2 := by grind
  rw [h3] at h2
  have h4 : 2 * (q * H) * G = 2 * (q * G * H) := by grind
  rw [h4] at h1
  generalize q * G * H = X at *
  grind
/-- the quotient's datum, and how near it is -/
theorem val_quot (g : Nat) (hg : 1 ≤ g) (s t : Bool) (m n : Nat) (i j : Int) (hn : n ≠ 0) : ∃ mq p, (Datum.number s m i).quotient g (.number t n j) = some (.number (s ^^ t) mq p) ∧
    Near ((mq : Rat) * tw p) ((m : Rat) * tw i / ((n : Rat) * tw j)) ((m : Rat) * tw i / ((n : Rat) * tw j) * tw (-(g : Int))) := by
  refine ⟨_, _, by unfold Datum.quotient; dsimp only; rw [if_neg hn], ?_⟩
  obtain ⟨more, hmore⟩ : ∃ more, more = g + n.log2 - m.log2 := ⟨_, rfl⟩
  rw [← hmore, Nat.shiftLeft_eq]
  obtain ⟨M, hM⟩ : ∃ M, M = m * 2 ^ more := ⟨_, rfl⟩
  rw [← hM]
  have hnp : 0 < n := Nat.pos_of_ne_zero hn
  have hN : (0 : Rat) < (n : Rat) := by
    have := Rat.natCast_lt_natCast.2 hnp
    exact this
  obtain ⟨E, hE⟩ : ∃ E, E = (m : Rat) * tw i / ((n : Rat) * tw j) := ⟨_, rfl⟩
  rw [← hE]
  have hTj := tw_pos j
  have hb : (n : Rat) * tw j ≠ 0 := by
    have := Rat.mul_pos hN hTj
    grind
  have e1 : E * ((n : Rat) * tw j) = (m : Rat) * tw i := by rw [hE]; exact div_mul hb
  obtain ⟨H, hH⟩ : ∃ H, H = tw (i - j - (more : Int) - 1) := ⟨_, rfl⟩
  rw [← hH]
  have hHp : 0 < H := by rw [hH]; exact tw_pos _
  have e2 : tw i = 2 * H * ((2 ^ more : Nat) : Rat) * tw j := by
    rw [hH, ← tw_nat, ← tw_one, ← tw_add, ← tw_add]
    congr 1
    omega
  have e3 : (M : Rat) = (m : Rat) * ((2 ^ more : Nat) : Rat) := by rw [hM, Rat.natCast_mul]
  have e4 : E * (n : Rat) = 2 * ((M : Rat) * H) := by
    refine eq_of_mul hTj ?_
    rw [Rat.mul_assoc, e1, e2, e3]
    generalize ((2 ^ more : Nat) : Rat) = D
    grind
  have hdm := Nat.div_add_mod M n
  have hml := Nat.mod_lt M hnp
  obtain ⟨q, hq⟩ : ∃ q, q = M / n := ⟨_, rfl⟩
  obtain ⟨r, hr⟩ : ∃ r, r = M % n := ⟨_, rfl⟩
  rw [← hq, ← hr] at hdm ⊢
  rw [← hr] at hml
  have e5 : (M : Rat) = (n : Rat) * (q : Rat) + (r : Rat) := by rw [← Rat.natCast_mul, ← Rat.natCast_add, hdm]
  have hr0 : (0 : Rat) ≤ (r : Rat) := Rat.natCast_le_natCast.2 (Nat.zero_le r)
  have hr1 : (r : Rat) ≤ (n : Rat) := Rat.natCast_le_natCast.2 (Nat.le_of_lt hml)
  have hGp := tw_pos (-(g : Int))
  have hq0 : (0 : Rat) ≤ (q : Rat) := Rat.natCast_le_natCast.2 (Nat.zero_le q)
  by_cases h0 : r = 0
  · rw [h0]
    simp only [bne_self_eq_false, Bool.toNat_false, Nat.add_zero]
    rw [h0] at e5
    have e6 : E = ((2 * q : Nat) : Rat) * H := by
      refine eq_of_mul hN ?_
      rw [e4, e5, Rat.natCast_mul, show ((0 : Nat) : Rat) = 0 from rfl, show ((2 : Nat) : Rat) = 2 from rfl]
      grind
    have hE0 : 0 ≤ E := by
      rw [e6]
      exact Rat.mul_nonneg (Rat.natCast_le_natCast.2 (Nat.zero_le (2 * q))) (Rat.le_of_lt hHp)
    have := Rat.mul_nonneg hE0 (Rat.le_of_lt hGp)
    rw [← e6]
    unfold Near
    grind
  · have hb1 : (r != 0) = true := by simpa using h0
    rw [hb1]
    simp only [Bool.toNat_true]
    have hm0 : m ≠ 0 := by
      rintro rfl
      rw [Nat.zero_mul] at hM
      subst hM
      rw [Nat.zero_mod] at hr
      exact h0 hr
    have hlow : 2 ^ (g - 1) ≤ q := by
      rw [hq, Nat.le_div_iff_mul_le hnp, hM]
      have h1 : 2 ^ m.log2 * 2 ^ more ≤ m * 2 ^ more := Nat.mul_le_mul_right _ (pow_le hm0)
      rw [← Nat.pow_add] at h1
      have h2 : n < 2 ^ (n.log2 + 1) := lt_pow
      have h3 : 2 ^ (g - 1) * n ≤ 2 ^ (g - 1) * 2 ^ (n.log2 + 1) := Nat.mul_le_mul_left _ (Nat.le_of_lt h2)
      rw [← Nat.pow_add] at h3
      have h4 : 2 ^ (g - 1 + (n.log2 + 1)) ≤ 2 ^ (m.log2 + more) := Nat.pow_le_pow_right (by omega) (by omega)
      omega
    have hlow' : tw ((g - 1 : Nat) : Int) ≤ (q : Rat) := by rw [tw_nat]; exact Rat.natCast_le_natCast.2 hlow
    have e7 : tw ((g - 1 : Nat) : Int) * tw (-(g : Int)) * 2 = 1 := by
      rw [← tw_add, Rat.mul_comm, ← tw_one, show ((g - 1 : Nat) : Int) + -(g : Int) + 1 = 0 from by omega]
      rfl
    have e8 := mul_up hlow' (Rat.le_of_lt hGp)
    -- E lies between 2 q H and 2 (q + 1) H
    have l1 : 2 * ((q : Rat) * H) ≤ E := by
      refine le_of_mul hN ?_
      rw [e4, e5]
      have := Rat.mul_nonneg hr0 (Rat.le_of_lt hHp)
      grind
    have l2 : E ≤ 2 * ((q : Rat) * H) + 2 * H := by
      refine le_of_mul hN ?_
      rw [e4, e5]
      have := mul_up hr1 (Rat.le_of_lt hHp)
      grind
    have l3 : H ≤ E * tw (-(g : Int)) := half_le e7 e8 l1 hHp hGp
    have e9 : ((2 * q + 1 : Nat) : Rat) * H = 2 * ((q : Rat) * H) + H := by
      rw [Rat.natCast_add, Rat.natCast_mul, show ((2 : Nat) : Rat) = 2 from rfl, show ((1 : Nat) : Rat) = 1 from rfl]
      grind
    rw [e9]
    unfold Near
    grind
theorem fb_pos (k : FloatKind) : (0 : Int) ≤ k.format.fractionBits := by omega
theorem quo_v {k : FloatKind} {x y : Nat} (hx : Is k x) (hy : Is k y) (h0 : vl k y ≠ 0) (hb : ab (vl k x / vl k y) < tw 90) : Op k .quo x y (vl k x / vl k y) (3 * ulp k (vl k x / vl k y)) := by
  obtain ⟨s, m, i, h1⟩ := hx
  obtain ⟨t, n, j, h2⟩ := hy
  have e1 : vl k x = sg s ((m : Rat) * tw i) := by unfold vl; rw [h1]; rfl
  have e2 : vl k y = sg t ((n : Rat) * tw j) := by unfold vl; rw [h2]; rfl
  have hn : n ≠ 0 := by
    rintro rfl
    apply h0
    rw [e2, show ((0 : Nat) : Rat) = 0 from rfl, Rat.zero_mul]
    cases t <;> simp [sg]
  obtain ⟨mq, p, hq, hnear⟩ := val_quot (k.format.fractionBits + 2) (by omega) s t m n i j hn
  obtain ⟨E, hE⟩ : ∃ E, E = (m : Rat) * tw i / ((n : Rat) * tw j) := ⟨_, rfl⟩
  rw [← hE] at hnear
  have hN : (0 : Rat) < (n : Rat) * tw j := Rat.mul_pos (Rat.natCast_lt_natCast.2 (Nat.pos_of_ne_zero hn)) (tw_pos j)
  have hE0 : 0 ≤ E := by
    refine le_of_mul hN ?_
    rw [hE, div_mul (by grind), Rat.zero_mul]
    exact mag_nonneg m i
  have e3 : vl k x / vl k y = sg (s ^^ t) E := by
    rw [e1, e2, hE]
    generalize (m : Rat) * tw i = a, (n : Rat) * tw j = b at *
    cases s <;> cases t <;> simp [sg] <;> grind
  have eE : ab (vl k x / vl k y) = E := by rw [e3, ab_sg _ hE0]
  have hR : ab (val (.number (s ^^ t) mq p)) = (mq : Rat) * tw p := ab_sg _ (mag_nonneg mq p)
  have hGp := tw_pos (-((k.format.fractionBits + 2 : Nat) : Int))
  have hG2 : tw (-(k.format.fractionBits + 1 : Int)) = 2 * tw (-((k.format.fractionBits + 2 : Nat) : Int)) := by rw [← tw_one]; congr 1
  have hG1 : tw (-(k.format.fractionBits + 1 : Int)) ≤ 1 := by
    have h := tw_mono (p := -(k.format.fractionBits + 1 : Int)) (q := 0) (by have := fb_pos k; omega)
    exact h
  have h90 : tw 100 = 1024 * tw 90 := by decide +kernel
  rw [eE] at hb
  have hEG := Rat.mul_nonneg hE0 (Rat.le_of_lt hGp)
  have hEG1 := mul_up' hG1 hE0
  have hRb : (mq : Rat) * tw p ≤ 2 * E := by
    unfold Near at hnear
    generalize tw (-((k.format.fractionBits + 2 : Nat) : Int)) = G at *
    rw [hG2] at hEG1
    grind
  have hop := op_of (k := k) (op := .quo) (x := x) (y := y) (r := .number (s ^^ t) mq p) (by unfold floatBits Format.div; dsimp only; rw [h1, h2, hq]; rfl) ⟨_, _, _, rfl⟩ (by rw [hR]; grind)
  refine ⟨fun h0 => hop.nn ?_, hop.some, hop.num, ?_⟩
  · show 0 ≤ sg (s ^^ t) _
    rw [e3] at h0
    cases hst : s ^^ t
    · exact mag_nonneg mq p
    · rw [hst] at h0
      have h1 : E = 0 := by unfold sg at h0; simp at h0; grind
      rw [h1] at hRb
      have h2 := mag_nonneg mq p
      have h3 : (mq : Rat) * tw p = 0 := by grind
      rw [h3]
      unfold sg
      simp
  have h3 := hop.near
  have h4 : Near (val (.number (s ^^ t) mq p)) (vl k x / vl k y) (E * tw (-((k.format.fractionBits + 2 : Nat) : Int))) := by
    rw [e3]
    exact near_sg _ hnear
  unfold ulp at h3 ⊢
  rw [hR] at h3
  rw [eE]
  have h5 := mul_up hRb (Rat.le_of_lt (tw_pos (-(k.format.fractionBits + 1 : Int))))
  have h6 := tw_pos (k.format.leastPlace - 1)
  rw [hG2] at h3 h5 ⊢
  unfold Near at *
  generalize tw (-((k.format.fractionBits + 2 : Nat) : Int)) = G, tw (k.format.leastPlace - 1) = L, val (.number (s ^^ t) mq p) = R, (mq : Rat) * tw p = Q at *
  grind
/-- a whole number -/
theorem int_v (k : FloatKind) {z : Int} (h : ab (z : Rat) < tw 100) : Is k (floatOfInt k z) ∧ Near (vl k (floatOfInt k z)) z (ulp k z) := by
  have e : val (.number (decide (z < 0)) z.natAbs 0) = (z : Rat) := by
    have h1 := val_int z false 0
    by_cases h0 : z = 0
    · subst h0; decide +kernel
    · rw [if_neg h0] at h1
      rw [h1, show tw 0 = 1 from rfl, Rat.mul_one]
  have hf : Fits (.number (decide (z < 0)) z.natAbs 0) 99 := fit_val ⟨_, _, _, rfl⟩ (by rw [e]; exact h)
  obtain ⟨s, m, p, h1, h2⟩ := fits_val (k := k) hf (show (99 : Int) < topE k by cases k <;> decide)
  rw [e] at h2
  exact ⟨⟨s, m, p, h1⟩, by unfold vl; rw [show k.format.read (floatOfInt k z) = _ from h1]; exact h2⟩
end Go.Proofs.Ytikleaiflmoffaa
