/- Log, LogB, LogWalk, LogSpec, Ext, Roots, Within, Masses, Logs -/
import Derived.Test.YtikleaiflmoffaaBa
import Derived.Outline
import Derived.Deep.LoopGhost
import Derived.Laws.Externs
-- The logarithm of a positive number: halves and doubles of a word, and that the result is not great. Plain.
namespace Go.Proofs.Ytikleaiflmoffaa
open Ieee
/-- one binade of float64 -/
def bin : Nat := 4503599627370496
def c1 : Nat := 4607182418800017408
def c2 : Nat := 4611686018427387904
def c15 : Nat := 4609434218613702656
def c075 : Nat := 4604930618986332160
def cln2 : Nat := 4604418534313441775
def inf64 : Nat := 9218868437227405312
theorem log2_of {m k : Nat} (h1 : 2 ^ k ≤ m) (h2 : m < 2 ^ (k + 1)) : m.log2 = k :=
  (Nat.log2_eq_iff (by have := Nat.two_pow_pos k; omega)).2 ⟨h1, h2⟩
theorem read64 {b : Nat} (h1 : bin ≤ b) (h2 : b < inf64) : FloatKind.f64.format.read b = .number false (bin + b % bin) (-1074 + (b / bin - 1 : Nat)) := by
  obtain ⟨fb, fi, fl, _⟩ := fmt64
  have hs : FloatKind.f64.format.signWeight = 9223372036854775808 := by decide
  unfold bin at *
  unfold inf64 at h2
  unfold Format.read
  rw [fb, fi, fl, hs]
  dsimp only
  have e1 : b % 9223372036854775808 = b := Nat.mod_eq_of_lt (by omega)
  have e2 : (b / 9223372036854775808 % 2 == 1) = false := by rw [Nat.div_eq_of_lt (by omega)]; rfl
  rw [e1, e2, if_neg (by omega), if_pos h2]
theorem m_log {b : Nat} : (bin + b % bin).log2 = 52 := by
  have := Nat.mod_lt b (show 0 < bin by decide)
  refine log2_of (by show (4503599627370496 : Nat) ≤ _; unfold bin; omega) (by show _ < (9007199254740992 : Nat); unfold bin at *; omega)
theorem word_pos (f : Format) (z : Nat) : f.word (false ^^ false) z = z := by simp [Format.word]
theorem half_word {b : Nat} (h1 : 2 * bin ≤ b) (h2 : b < inf64) : floatBits .quo .f64 b c2 = some (b - bin) := by
  have hb : bin ≤ b := by unfold bin at *; omega
  have hr := read64 hb h2
  have hc : FloatKind.f64.format.read c2 = .number false bin (-51) := by decide
  obtain ⟨fb, fi, fl, ff⟩ := fmt64
  have hm := Nat.mod_lt b (show 0 < bin by decide)
  unfold floatBits Format.div
  dsimp only
  rw [hr, hc, ff]
  obtain ⟨m, hmd⟩ : ∃ m, m = bin + b % bin := ⟨_, rfl⟩
  have hml : m.log2 = 52 := by rw [hmd]; exact m_log
  rw [← hmd]
  unfold Datum.quotient
  dsimp only
  rw [if_neg (by decide), hml, show bin.log2 = 52 by decide, show 52 + 2 + 52 - 52 = 54 by rfl, Nat.shiftLeft_eq]
  have hq : m * 2 ^ 54 / bin = 4 * m := by
    rw [show (2 : Nat) ^ 54 = 4 * bin by decide, ← Nat.mul_assoc, Nat.mul_div_cancel _ (by decide), Nat.mul_comm]
  have hq0 : m * 2 ^ 54 % bin = 0 := by
    rw [show (2 : Nat) ^ 54 = 4 * bin by decide, ← Nat.mul_assoc, Nat.mul_mod_left]
  rw [hq, hq0]
  have hm0 : m ≠ 0 := by rw [hmd]; unfold bin; omega
  have hl8 : (2 * (4 * m) + 0).log2 = 55 := by
    refine log2_of ?_ ?_
    · show (36028797018963968 : Nat) ≤ _; rw [hmd]; unfold bin; omega
    · show _ < (72057594037927936 : Nat); rw [hmd]; unfold bin at *; omega
  obtain ⟨i, hi⟩ : ∃ i : Int, i = -1074 + ((b / bin - 1 : Nat) : Int) := ⟨_, rfl⟩
  have hbd : 2 ≤ b / bin := by rw [Nat.le_div_iff_mul_le (by decide)]; exact h1
  rw [← hi]
  have hmore : ((0 : Nat) != 0).toNat = 0 := rfl
  rw [hmore]
  simp only [Option.map_some]
  unfold Format.write Format.nearest
  dsimp only
  rw [if_neg (by omega), hl8, fl, ff, fb, fi]
  have hlast : max (i - (-51) - ((54 : Nat) : Int) - 1 + ((55 : Nat) : Int) - ((52 : Nat) : Int)) (-1074) = i - 1 := by omega
  rw [hlast, show (i - (-51) - ((54 : Nat) : Int) - 1 - (i - 1)).toNat = 0 by omega, show (i - 1 - (i - (-51) - ((54 : Nat) : Int) - 1)).toNat = 3 by omega, Nat.shiftLeft_zero]
  have hcut : Toward.even.cut (false ^^ false) (2 * (4 * m) + 0) 3 = m := by
    unfold Toward.cut
    rw [hl8]
    have e1 : (2 * (4 * m) + 0) / (1 <<< min 3 (55 + 2)) = m := by rw [show 1 <<< min 3 (55 + 2) = 8 by decide]; omega
    have e2 : (2 * (4 * m) + 0) % (1 <<< min 3 (55 + 2)) = 0 := by rw [show 1 <<< min 3 (55 + 2) = 8 by decide]; omega
    simp only [e1, e2]
    simp
  rw [hcut]
  refine congrArg some ?_
  have hw : (i - 1 - (-1074)).toNat = b / bin - 2 := by omega
  rw [hw]
  have hdm := Nat.div_add_mod b bin
  have hval : (b / bin - 2) * 4503599627370496 + m = b - bin := by
    rw [hmd]
    show (b / bin - 2) * bin + (bin + b % bin) = b - bin
    have h3 : (b / bin - 2) * bin + 2 * bin = bin * (b / bin) := by rw [← Nat.add_mul, Nat.mul_comm]; congr 1; omega
    omega
  rw [word_pos, hval]
  exact Nat.min_eq_left (by unfold inf64 at h2; omega)
theorem dbl_word {b : Nat} (h1 : bin ≤ b) (h2 : b + bin < inf64) : floatBits .mul .f64 b c2 = some (b + bin) := by
  have hr := read64 h1 (by omega)
  have hc : FloatKind.f64.format.read c2 = .number false bin (-51) := by decide
  obtain ⟨fb, fi, fl, ff⟩ := fmt64
  have hm := Nat.mod_lt b (show 0 < bin by decide)
  unfold floatBits Format.mul
  dsimp only
  rw [hr, hc]
  obtain ⟨m, hmd⟩ : ∃ m, m = bin + b % bin := ⟨_, rfl⟩
  rw [← hmd]
  unfold Datum.product
  dsimp only
  have hm0 : m ≠ 0 := by rw [hmd]; unfold bin; omega
  have hl8 : (m * bin).log2 = 104 := by
    refine log2_of ?_ ?_
    · show (20282409603651670423947251286016 : Nat) ≤ _; rw [hmd]; unfold bin; omega
    · show _ < (40564819207303340847894502572032 : Nat); rw [hmd]; unfold bin at *; omega
  obtain ⟨i, hi⟩ : ∃ i : Int, i = -1074 + ((b / bin - 1 : Nat) : Int) := ⟨_, rfl⟩
  have hbd : 1 ≤ b / bin := by rw [Nat.le_div_iff_mul_le (by decide)]; omega
  rw [← hi]
  simp only [Option.map_some]
  unfold Format.write Format.nearest
  dsimp only
  rw [if_neg (Nat.mul_ne_zero hm0 (by decide)), hl8, fl, ff, fb, fi]
  have hlast : max (i + -51 + ((104 : Nat) : Int) - ((52 : Nat) : Int)) (-1074) = i + 1 := by omega
  rw [hlast, show (i + -51 - (i + 1)).toNat = 0 by omega, show (i + 1 - (i + -51)).toNat = 52 by omega, Nat.shiftLeft_zero]
  have hcut : Toward.even.cut (false ^^ false) (m * bin) 52 = m := by
    unfold Toward.cut
    rw [hl8]
    have e1 : (m * bin) / (1 <<< min 52 (104 + 2)) = m := by rw [show 1 <<< min 52 (104 + 2) = bin by decide]; exact Nat.mul_div_cancel _ (by decide)
    have e2 : (m * bin) % (1 <<< min 52 (104 + 2)) = 0 := by rw [show 1 <<< min 52 (104 + 2) = bin by decide]; exact Nat.mul_mod_left _ _
    simp only [e1, e2]
    simp
  rw [hcut]
  refine congrArg some ?_
  have hw : (i + 1 - (-1074)).toNat = b / bin := by omega
  rw [hw]
  have hdm := Nat.div_add_mod b bin
  have hval : b / bin * 4503599627370496 + m = b + bin := by
    rw [hmd]
    show b / bin * bin + (bin + b % bin) = b + bin
    rw [Nat.mul_comm]
    omega
  rw [word_pos, hval]
  exact Nat.min_eq_left (by unfold inf64 at h2; omega)
/-- the order of positive words -/
theorem order_lt {a c : Nat} (ha : bin ≤ a) (hac : a < c) (hc : c < inf64) : FloatKind.f64.format.order a c = some .lt ∧ FloatKind.f64.format.order c a = some .gt := by
  have hra := read64 ha (by omega)
  have hrc := read64 (show bin ≤ c by omega) hc
  have hda := Nat.div_add_mod a bin
  have hdc := Nat.div_add_mod c bin
  have hma := Nat.mod_lt a (show 0 < bin by decide)
  have hmc := Nat.mod_lt c (show 0 < bin by decide)
  have hle : a / bin ≤ c / bin := Nat.div_le_div_right (by omega)
  have h1a : 1 ≤ a / bin := by rw [Nat.le_div_iff_mul_le (by decide)]; omega
  have key : (bin + a % bin) * 2 ^ ((-1074 + ((a / bin - 1 : Nat) : Int)) - min (-1074 + ((a / bin - 1 : Nat) : Int)) (-1074 + ((c / bin - 1 : Nat) : Int))).toNat < (bin + c % bin) * 2 ^ ((-1074 + ((c / bin - 1 : Nat) : Int)) - min (-1074 + ((a / bin - 1 : Nat) : Int)) (-1074 + ((c / bin - 1 : Nat) : Int))).toNat := by
    rw [show ((-1074 + ((a / bin - 1 : Nat) : Int)) - min (-1074 + ((a / bin - 1 : Nat) : Int)) (-1074 + ((c / bin - 1 : Nat) : Int))).toNat = 0 by omega, Nat.pow_zero, Nat.mul_one]
    rw [show ((-1074 + ((c / bin - 1 : Nat) : Int)) - min (-1074 + ((a / bin - 1 : Nat) : Int)) (-1074 + ((c / bin - 1 : Nat) : Int))).toNat = c / bin - a / bin by omega]
    by_cases he : a / bin = c / bin
    · rw [he, Nat.sub_self, Nat.pow_zero, Nat.mul_one]
      rw [he] at hda
      omega
    · have h2 : 2 ^ 1 ≤ 2 ^ (c / bin - a / bin) := Nat.pow_le_pow_right (by omega) (by omega)
      have h3 : (bin + c % bin) * 2 ≤ (bin + c % bin) * 2 ^ (c / bin - a / bin) := Nat.mul_le_mul_left _ h2
      omega
  have key2 : signed false (bin + a % bin) ((-1074 + ((a / bin - 1 : Nat) : Int)) - min (-1074 + ((a / bin - 1 : Nat) : Int)) (-1074 + ((c / bin - 1 : Nat) : Int))).toNat < signed false (bin + c % bin) ((-1074 + ((c / bin - 1 : Nat) : Int)) - min (-1074 + ((a / bin - 1 : Nat) : Int)) (-1074 + ((c / bin - 1 : Nat) : Int))).toNat := by
    unfold signed
    rw [if_neg (by decide), if_neg (by decide), Nat.shiftLeft_eq, Nat.shiftLeft_eq]
    exact Int.ofNat_lt.2 key
  unfold Format.order
  rw [hra, hrc]
  unfold Datum.order
  dsimp only
  rw [Int.min_comm (-1074 + ((c / bin - 1 : Nat) : Int)) (-1074 + ((a / bin - 1 : Nat) : Int))]
  exact ⟨by rw [Int.compare_eq_lt.2 key2], by rw [Int.compare_eq_gt.2 key2]⟩
theorem order_eq {a : Nat} (ha : bin ≤ a) (hc : a < inf64) : FloatKind.f64.format.order a a = some .eq := by
  refine order_self ?_
  unfold nanF
  rw [read64 ha hc]
  rfl
end Go.Proofs.Ytikleaiflmoffaa

-- The logarithm of a positive number: what the loops leave, and that the result fits a float32. Plain.
namespace Go.Proofs.Ytikleaiflmoffaa
open Ieee
def fitsB (d : Datum) (E : Int) : Bool := match d with | .number _ m p => decide (m = 0 ∨ p + m.log2 ≤ E) | _ => false
theorem fits_of {d : Datum} {E : Int} (h : fitsB d E = true) : Fits d E := by
  unfold fitsB at h
  split at h
  · rename_i s m p
    exact ⟨s, m, p, rfl, of_decide_eq_true h⟩
  · cases h
/-- a small integer as a float64 -/
def iof (z : Int) : Nat := floatOfInt .f64 z
theorem all_range {p : Nat → Bool} {n : Nat} (h : (List.range n).all p = true) {j : Nat} (hj : j < n) : p j = true := List.all_eq_true.1 h j (List.mem_range.2 hj)
theorem iof_up {j : Nat} (h : j < 200) : floatBits .add .f64 (iof (j : Int)) c1 = some (iof ((j : Int) + 1)) := by
  have key : (List.range 200).all (fun j => floatBits .add .f64 (iof (j : Int)) c1 == some (iof ((j : Int) + 1))) = true := by decide +kernel
  simpa using all_range key h
theorem iof_down {j : Nat} (h : j < 200) : floatBits .sub .f64 (iof (-(j : Int))) c1 = some (iof (-(j : Int) - 1)) := by
  have key : (List.range 200).all (fun j => floatBits .sub .f64 (iof (-(j : Int))) c1 == some (iof (-(j : Int) - 1))) = true := by decide +kernel
  simpa using all_range key h
theorem iof_fits {z : Int} (h1 : -200 ≤ z) (h2 : z ≤ 200) : Fits (FloatKind.f64.format.read (iof z)) 8 := by
  have key : (List.range 401).all (fun j => fitsB (FloatKind.f64.format.read (iof ((j : Int) - 200))) 8) = true := by decide +kernel
  have h := all_range key (j := (z + 200).toNat) (by omega)
  rw [show (((z + 200).toNat : Nat) : Int) - 200 = z by omega] at h
  exact fits_of h
/-- the divisors 25, 23, .., 1 -/
theorem div_fits {j : Nat} (h : j < 13) : Fits (FloatKind.f64.format.read (fop .quo .f64 c1 (iof (25 - 2 * (j : Int))))) 1 := by
  have key : (List.range 13).all (fun j => fitsB (FloatKind.f64.format.read (fop .quo .f64 c1 (iof (25 - 2 * (j : Int))))) 1) = true := by decide +kernel
  exact fits_of (all_range key h)
theorem div_down {j : Nat} (h : j < 13) : floatBits .sub .f64 (iof (25 - 2 * (j : Int))) c2 = some (iof (25 - 2 * ((j : Int) + 1))) ∧ (FloatKind.f64.format.order (iof (25 - 2 * (j : Int))) c1 == some .gt || FloatKind.f64.format.order (iof (25 - 2 * (j : Int))) c1 == some .eq) = true := by
  have key : (List.range 13).all (fun j => floatBits .sub .f64 (iof (25 - 2 * (j : Int))) c2 == some (iof (25 - 2 * ((j : Int) + 1))) && (FloatKind.f64.format.order (iof (25 - 2 * (j : Int))) c1 == some .gt || FloatKind.f64.format.order (iof (25 - 2 * (j : Int))) c1 == some .eq)) = true := by decide +kernel
  have h := all_range key h
  rw [Bool.and_eq_true] at h
  exact ⟨by simpa using h.1, h.2⟩
theorem div_end : FloatKind.f64.format.order (iof (25 - 2 * 13)) c1 = some .lt := by decide +kernel
theorem iof_zero : iof 0 = 0 := by decide
theorem iof_25 : iof 25 = 4627730092099895296 := by decide
def logS (t : Nat) : Nat := fop .quo .f64 (fop .sub .f64 t c1) (fop .add .f64 t c1)
def logU (t : Nat) : Nat := fop .mul .f64 (logS t) (logS t)
def logQ (u : Nat) : Nat → Nat
  | 0 => 0
  | j + 1 => fop .add .f64 (fop .quo .f64 c1 (iof (25 - 2 * (j : Int)))) (fop .mul .f64 u (logQ u j))
def logR (t : Nat) (e : Int) : Nat := fop .add .f64 (fop .mul .f64 c2 (fop .mul .f64 (logS t) (logQ (logU t) 13))) (fop .mul .f64 (iof e) cln2)
theorem lows (k : FloatKind) : k.format.leastPlace + k.format.fractionBits ≤ -10 := by cases k <;> decide
/-- what is left of t when one is taken is less than a half; with one put to it it is not less than one -/
theorem t_parts {t : Nat} (h1 : c075 ≤ t) (h2 : t < c15) : Fits (FloatKind.f64.format.read (fop .sub .f64 t c1)) (-1) ∧ ∃ n j, FloatKind.f64.format.read (fop .add .f64 t c1) = .number false n j ∧ n ≠ 0 ∧ 0 ≤ j + n.log2 := by
  have hr := read64 (b := t) (by unfold bin c075 at *; omega) (by unfold c15 inf64 at *; omega)
  have hc : FloatKind.f64.format.read c1 = .number false bin (-52) := by decide
  have hm := Nat.mod_lt t (show 0 < bin by decide)
  have hdm := Nat.div_add_mod t bin
  obtain ⟨fb, fi, fl, ff⟩ := fmt64
  have hcase : (t / bin = 1022 ∧ 2251799813685248 ≤ t % bin) ∨ (t / bin = 1023 ∧ t % bin < 2251799813685248) := by
    have hd : t / bin = 1022 ∨ t / bin = 1023 := by
      have a1 : 1022 ≤ t / bin := by rw [Nat.le_div_iff_mul_le (by decide)]; unfold c075 bin at *; omega
      have a2 : t / bin < 1024 := by rw [Nat.div_lt_iff_lt_mul (by decide)]; unfold c15 bin at *; omega
      omega
    rcases hd with hd | hd
    · left; refine ⟨hd, ?_⟩; rw [hd] at hdm; unfold c075 bin at *; omega
    · right; refine ⟨hd, ?_⟩; rw [hd] at hdm; unfold c15 bin at *; omega
  have hplace : -1074 + ((t / bin - 1 : Nat) : Int) = -53 ∨ -1074 + ((t / bin - 1 : Nat) : Int) = -52 := by omega
  constructor
  · have hs : ∃ r, (FloatKind.f64.format.read t).sum (FloatKind.f64.format.read c1).opposite = some r ∧ Fits r (-2) := by
      rw [hr, hc]
      refine ⟨_, rfl, _, _, _, rfl, ?_⟩
      rcases hcase with ⟨hd, hl⟩ | ⟨hd, hl⟩
      · have e1 : -1074 + ((t / bin - 1 : Nat) : Int) = -53 := by omega
        rw [e1]
        have hv : (signed false (bin + t % bin) (-53 - min (-53) (-52) : Int).toNat + signed (!false) bin (-52 - min (-53) (-52) : Int).toNat).natAbs ≤ 2251799813685248 := by
          rw [show (-53 - min (-53) (-52) : Int).toNat = 0 by decide, show (-52 - min (-53) (-52) : Int).toNat = 1 by decide]
          unfold signed
          simp only [Bool.not_false, if_true, Nat.shiftLeft_eq]
          rw [if_neg (by decide)]
          unfold bin at *
          omega
        by_cases h0 : (signed false (bin + t % bin) (-53 - min (-53) (-52) : Int).toNat + signed (!false) bin (-52 - min (-53) (-52) : Int).toNat).natAbs = 0
        · exact .inl h0
        · right
          have hlog : (signed false (bin + t % bin) (-53 - min (-53) (-52) : Int).toNat + signed (!false) bin (-52 - min (-53) (-52) : Int).toNat).natAbs.log2 < 52 := by
            rw [Nat.log2_lt h0]
            exact Nat.lt_of_le_of_lt hv (by decide)
          omega
      · have e1 : -1074 + ((t / bin - 1 : Nat) : Int) = -52 := by omega
        rw [e1]
        have hv : (signed false (bin + t % bin) (-52 - min (-52) (-52) : Int).toNat + signed (!false) bin (-52 - min (-52) (-52) : Int).toNat).natAbs < 2251799813685248 := by
          rw [show (-52 - min (-52) (-52) : Int).toNat = 0 by decide]
          unfold signed
          simp only [Bool.not_false, if_true, Nat.shiftLeft_zero]
          rw [if_neg (by decide)]
          unfold bin at *
          omega
        by_cases h0 : (signed false (bin + t % bin) (-52 - min (-52) (-52) : Int).toNat + signed (!false) bin (-52 - min (-52) (-52) : Int).toNat).natAbs = 0
        · exact .inl h0
        · right
          have hlog : (signed false (bin + t % bin) (-52 - min (-52) (-52) : Int).toNat + signed (!false) bin (-52 - min (-52) (-52) : Int).toNat).natAbs.log2 < 51 := by
            rw [Nat.log2_lt h0]
            exact Nat.lt_of_lt_of_le hv (by decide)
          omega
    obtain ⟨r, hr2, hf⟩ := hs
    have := fop_fits (op := .sub) (k := .f64) (x := t) (y := c1) (by unfold floatBits Format.sub; dsimp only; rw [hr2]; rfl) hf (by have := lows .f64; omega) (by decide)
    exact this
  · have hs : ∃ mag pl, (FloatKind.f64.format.read t).sum (FloatKind.f64.format.read c1) = some (.number false mag pl) ∧ mag ≠ 0 ∧ 0 ≤ pl + mag.log2 ∧ pl + mag.log2 ≤ 3 := by
      rw [hr, hc]
      rcases hcase with ⟨hd, hl⟩ | ⟨hd, hl⟩
      · have e1 : -1074 + ((t / bin - 1 : Nat) : Int) = -53 := by omega
        rw [e1]
        have hv : signed false (bin + t % bin) (-53 - min (-53) (-52) : Int).toNat + signed false bin (-52 - min (-53) (-52) : Int).toNat = ((bin + t % bin + bin * 2 : Nat) : Int) := by
          rw [show (-53 - min (-53) (-52) : Int).toNat = 0 by decide, show (-52 - min (-53) (-52) : Int).toNat = 1 by decide]
          unfold signed
          simp only [Nat.shiftLeft_eq]
          rw [if_neg (by decide), if_neg (by decide)]
          omega
        have hlog : (bin + t % bin + bin * 2).log2 = 53 := log2_of (by show (9007199254740992 : Nat) ≤ _; unfold bin at *; omega) (by show _ < (18014398509481984 : Nat); unfold bin at *; omega)
        refine ⟨bin + t % bin + bin * 2, -53, ?_, by unfold bin; omega, by rw [hlog]; decide, by rw [hlog]; decide⟩
        unfold Datum.sum
        dsimp only
        rw [hv, if_neg (by unfold bin; omega), show decide (((bin + t % bin + bin * 2 : Nat) : Int) < 0) = false by rw [decide_eq_false_iff_not]; omega]
        rfl
      · have e1 : -1074 + ((t / bin - 1 : Nat) : Int) = -52 := by omega
        rw [e1]
        have hv : signed false (bin + t % bin) (-52 - min (-52) (-52) : Int).toNat + signed false bin (-52 - min (-52) (-52) : Int).toNat = ((bin + t % bin + bin : Nat) : Int) := by
          rw [show (-52 - min (-52) (-52) : Int).toNat = 0 by decide]
          unfold signed
          simp only [Nat.shiftLeft_zero]
          rw [if_neg (by decide), if_neg (by decide)]
          omega
        have hlog : (bin + t % bin + bin).log2 = 53 := log2_of (by show (9007199254740992 : Nat) ≤ _; unfold bin at *; omega) (by show _ < (18014398509481984 : Nat); unfold bin at *; omega)
        refine ⟨bin + t % bin + bin, -52, ?_, by unfold bin; omega, by rw [hlog]; decide, by rw [hlog]; decide⟩
        unfold Datum.sum
        dsimp only
        rw [hv, if_neg (by unfold bin; omega), show decide (((bin + t % bin + bin : Nat) : Int) < 0) = false by rw [decide_eq_false_iff_not]; omega]
        rfl
    obtain ⟨mag, pl, hsum, hm0, hlo, hhi⟩ := hs
    obtain ⟨n, j, hn, hn0, hnl⟩ := nearest_low FloatKind.f64.format false mag pl hm0 (by have := lows .f64; omega) (by rw [ff, fl, fb, fi]; omega)
    refine ⟨n, j, ?_, hn0, by omega⟩
    have hfb : floatBits .add .f64 t c1 = some (FloatKind.f64.format.nearest false mag pl) := by
      unfold floatBits Format.add
      dsimp only
      rw [hsum]
      rfl
    rw [fop_some hfb, hn]
theorem logS_fits {t : Nat} (h1 : c075 ≤ t) (h2 : t < c15) : Fits (FloatKind.f64.format.read (logS t)) 0 := by
  obtain ⟨hx, n, j, hy, hn, hl⟩ := t_parts h1 h2
  exact quo_fits (F := -1) hx hy hn (L := 0) (by omega) (by omega) (by have := lows .f64; omega) (by decide)
theorem logU_fits {t : Nat} (h1 : c075 ≤ t) (h2 : t < c15) : Fits (FloatKind.f64.format.read (logU t)) 2 :=
  mul_fits (F := 1) (logS_fits h1 h2) (logS_fits h1 h2) (by omega) (by have := lows .f64; omega) (by decide)
theorem logQ_fits {u : Nat} (hu : Fits (FloatKind.f64.format.read u) 2) : ∀ j, j ≤ 13 → Fits (FloatKind.f64.format.read (logQ u j)) (6 * (j : Int)) := by
  intro j
  induction j with
  | zero => intro _; exact ⟨false, 0, -1074, by show FloatKind.f64.format.read 0 = _; decide, .inl rfl⟩
  | succ j ih =>
    intro hj
    have hq := mul_fits (k := .f64) (F := 6 * (j : Int) + 3) hu (ih (by omega)) (by omega) (by have := lows .f64; omega) (by unfold topE; dsimp only; omega)
    have hd := fits_mono (div_fits (j := j) (by omega)) (show (1 : Int) ≤ 6 * (j : Int) + 3 + 1 by omega)
    have := add_fits hd hq (by have := lows .f64; omega) (by unfold topE; dsimp only; omega)
    exact fits_mono this (by omega)
theorem logR_fits {t : Nat} {e : Int} (h1 : c075 ≤ t) (h2 : t < c15) (h3 : -200 ≤ e) (h4 : e ≤ 200) : Fits (FloatKind.f64.format.read (logR t e)) 85 := by
  have hq := logQ_fits (logU_fits h1 h2) 13 (by omega)
  have h5 := mul_fits (k := .f64) (F := 79) (logS_fits h1 h2) hq (by omega) (by have := lows .f64; omega) (by decide)
  have hc2 : Fits (FloatKind.f64.format.read c2) 1 := fits_of (by decide)
  have h6 := mul_fits (k := .f64) (F := 82) hc2 h5 (by omega) (by have := lows .f64; omega) (by decide)
  have hln : Fits (FloatKind.f64.format.read cln2) 0 := fits_of (by decide)
  have h7 := mul_fits (k := .f64) (F := 9) (iof_fits h3 h4) hln (by omega) (by have := lows .f64; omega) (by decide)
  exact add_fits h6 (fits_mono h7 (by omega)) (by have := lows .f64; omega) (by decide)
theorem fits_nar {r : Nat} {E : Int} (h : Fits (FloatKind.f64.format.read r) E) (hE : E < 126) : Nar r ∧ nanF .f32 (nar r) = false := by
  have h2 := fits_enc .f32 (fits_mono h (show E ≤ 126 by omega)) (by decide) (by decide)
  obtain ⟨s, m, p, he, _⟩ := h
  rw [he] at h2
  obtain ⟨h3, h4⟩ := fits_nan h2
  have h5 : floatToFloatBits .f64 r .f32 = some (FloatKind.f32.format.write (.number s m p)) := by
    unfold floatToFloatBits
    rw [if_neg (by decide), show FloatKind.f64.decode r = .number s m p from he]
    dsimp only
    rw [if_neg (by show ¬ (FloatKind.f32.format.read (FloatKind.f32.format.write (.number s m p))).isInfinity = true; rw [h4]; decide)]
    rfl
  refine ⟨.inr ⟨_, h5⟩, ?_⟩
  unfold nar
  rw [h5]
  exact h3
/-- a float32 that is finite and greater than nought -/
def Pos (x : Nat) : Prop := ∃ m p, FloatKind.f32.format.read x = .number false m p ∧ m ≠ 0
theorem pos_range {x : Nat} (h : Pos x) : 870 * bin ≤ wid x ∧ wid x < 1152 * bin ∧ floatToFloatBits .f32 x .f64 = some (wid x) := by
  obtain ⟨m, p, hr, hm⟩ := h
  obtain ⟨fb, fi, fl, ff⟩ := fmt64
  have hlim : -149 ≤ p + m.log2 ∧ p + m.log2 ≤ 127 ∧ m.log2 ≤ 23 := by
    obtain ⟨gb, gi, gl, gf⟩ := fmt32
    have hf := read_cases .f32 x
    rw [hr] at hf
    rcases hf with hf | ⟨s, hf⟩ | ⟨s, m', p', he, hf⟩
    · cases hf
    · cases hf
    · cases he
      have hu := hf.resolve_left hm
      refine ⟨?_, hu, ?_⟩
      · unfold Format.read at hr
        rw [gb, gi, gl] at hr
        dsimp only at hr
        split at hr
        · injection hr with _ h2 h3
          rw [← h3]
          omega
        · split at hr
          · injection hr with _ h2 h3
            rw [← h3]
            omega
          · split at hr <;> cases hr
      · unfold Format.read at hr
        rw [gb, gi, gl] at hr
        dsimp only at hr
        split at hr
        · rename_i h1
          injection hr with _ h2 h3
          have : m.log2 < 23 := by rw [Nat.log2_lt hm, ← h2]; exact h1
          omega
        · split at hr
          · injection hr with _ h2 h3
            have hlt : m < 2 ^ 24 := by
              rw [← h2]
              have := Nat.mod_lt (x % FloatKind.f32.format.signWeight) (show 0 < 8388608 by omega)
              show _ < 16777216
              omega
            have : m.log2 < 24 := by rw [Nat.log2_lt hm]; exact hlt
            omega
          · split at hr <;> cases hr
  obtain ⟨l1, l2, l3⟩ := hlim
  have hwid : ∃ r, floatToFloatBits .f32 x .f64 = some r ∧ r = FloatKind.f64.format.nearest false m p := by
    have hn : nanF .f32 x = false := by unfold nanF; rw [hr]; rfl
    have h1 := (wid_num hn).1
    refine ⟨wid x, h1, ?_⟩
    unfold floatToFloatBits at h1
    rw [if_neg (by decide), show FloatKind.f32.decode x = .number false m p from hr] at h1
    dsimp only at h1
    split at h1
    · cases h1
    · exact (Option.some.inj h1).symm
  obtain ⟨r, hr1, hr2⟩ := hwid
  have hw : wid x = r := by unfold wid; rw [hr1]; rfl
  rw [hw]
  refine ⟨?_, ?_, hr1⟩
  all_goals
    rw [hr2]
    unfold Format.nearest
    rw [if_neg hm, ff, fl, fb, fi]
    dsimp only
    have hlast : max (p + (m.log2 : Int) - ((52 : Nat) : Int)) (-1074) = p + m.log2 - 52 := by omega
    rw [hlast]
    obtain ⟨sh, hsh⟩ : ∃ sh, sh = (p - (p + (m.log2 : Int) - 52)).toNat := ⟨_, rfl⟩
    rw [← hsh, show (p + (m.log2 : Int) - 52 - p).toNat = 0 by omega]
    have hshv : sh = 52 - m.log2 := by omega
    have hcut : Toward.even.cut false (m <<< sh) 0 = m <<< sh := by
      unfold Toward.cut
      simp
      omega
    rw [hcut, Nat.shiftLeft_eq]
    have k1 : bin ≤ m * 2 ^ sh := by
      have h1 : 2 ^ m.log2 * 2 ^ sh ≤ m * 2 ^ sh := Nat.mul_le_mul_right _ (pow_le hm)
      rw [← Nat.pow_add, show m.log2 + sh = 52 by omega] at h1
      exact h1
    have k2 : m * 2 ^ sh < 2 * bin := by
      have h1 : m * 2 ^ sh < 2 ^ (m.log2 + 1) * 2 ^ sh := Nat.mul_lt_mul_of_pos_right lt_pow (Nat.two_pow_pos _)
      rw [← Nat.pow_add, show m.log2 + 1 + sh = 53 by omega] at h1
      exact h1
    have k3 : 873 ≤ (p + (m.log2 : Int) - 52 - -1074).toNat ∧ (p + (m.log2 : Int) - 52 - -1074).toNat ≤ 1149 := by omega
    obtain ⟨k3, k4⟩ := k3
    obtain ⟨y, hy⟩ : ∃ y, y = (p + (m.log2 : Int) - 52 - -1074).toNat := ⟨_, rfl⟩
    rw [← hy] at k3 k4 ⊢
    obtain ⟨z, hz⟩ : ∃ z, z = m * 2 ^ sh := ⟨_, rfl⟩
    rw [← hz] at k1 k2 ⊢
    rw [show ∀ z, FloatKind.f64.format.word false z = z from fun z => by simp [Format.word], Nat.min_eq_left (by unfold bin at *; omega)]
    unfold bin at *
    omega
end Go.Proofs.Ytikleaiflmoffaa

-- The logarithm's walks, both ways.
namespace Go.Proofs.Ytikleaiflmoffaa
open Go.RowKit
/-- how many halves the number is from the middle -/
def logE (b : Nat) : Int := ((b : Int) - (c075 : Int)) / (bin : Int)
/-- the number in the middle -/
def logT (b : Nat) : Nat := ((c075 : Int) + ((b : Int) - (c075 : Int)) % (bin : Int)).toNat
def logW (b : Nat) : Nat := logR (logT b) (logE b)
theorem log_mid {b t : Nat} {e : Int} (h : (t : Int) + e * (bin : Int) = b) (h1 : c075 ≤ t) (h2 : t < c15) : logT b = t ∧ logE b = e := by
  have h3 : (b : Int) - (c075 : Int) = ((t : Int) - (c075 : Int)) + (bin : Int) * e := by rw [Int.mul_comm]; omega
  have hb : (0 : Int) ≤ (t : Int) - (c075 : Int) ∧ (t : Int) - (c075 : Int) < (bin : Int) := by unfold c075 c15 bin at *; omega
  unfold logT logE
  rw [h3, Int.add_mul_emod_self_left, Int.add_mul_ediv_left _ _ (by decide), Int.emod_eq_of_lt hb.1 hb.2, Int.ediv_eq_zero_of_lt hb.1 hb.2]
  omega
def bitsOf : Value → Nat | .float _ n => n | _ => 0
theorem lit_c2 : c2 = 4611686018427387904 := rfl
end Go.Proofs.Ytikleaiflmoffaa

-- The logarithm, the reference's way; the logarithm of a float32 that is positive, both ways.
namespace Go.Proofs.Ytikleaiflmoffaa
open Ieee Go.RowKit
theorem order_pos_zero {b : Nat} (h1 : bin ≤ b) (h2 : b < inf64) : FloatKind.f64.format.order b 0 = some .gt := by
  have hr := read64 h1 h2
  have h0 : FloatKind.f64.format.read 0 = .number false 0 (-1074) := by decide
  unfold Format.order
  rw [hr, h0]
  unfold Datum.order
  dsimp only
  have hm : 0 < signed false (bin + b % bin) ((-1074 + ((b / bin - 1 : Nat) : Int)) - min (-1074 + ((b / bin - 1 : Nat) : Int)) (-1074)).toNat := by
    unfold signed
    rw [if_neg (by decide), Nat.shiftLeft_eq]
    have : 0 < (bin + b % bin) * 2 ^ ((-1074 + ((b / bin - 1 : Nat) : Int)) - min (-1074 + ((b / bin - 1 : Nat) : Int)) (-1074)).toNat := Nat.mul_pos (by unfold bin; omega) (Nat.two_pow_pos _)
    omega
  have hz : signed false 0 ((-1074 : Int) - min (-1074 + ((b / bin - 1 : Nat) : Int)) (-1074)).toNat = 0 := by
    unfold signed
    simp
  rw [hz, Int.compare_eq_gt.2 hm]
end Go.Proofs.Ytikleaiflmoffaa

-- Functions that the model stands in for: bits of a float64, square roots. Infinities and NaNs.
namespace Go.Proofs.Ytikleaiflmoffaa
open Ieee Go.RowKit
theorem run_frombits (n : Int) (w : World) : (callFunc 45 #[.int .u64 n]).run Try.prog w = .ok (.value (.float .f64 n.toNat)) w := by
  rw [run_callFunc_extern (e := Extern.MathFloatBits.float64frombits) Try.func45 (by kernel_rfl) (by kernel_rfl) (by kernel_rfl) (by kernel_rfl)]
  rfl
/-- a square root; some NaN where there is none -/
def sqC (x : Nat) : Nat := (FloatKind.f64.format.sqrt x).getD (qnan .f64)
theorem sqC_nan {x : Nat} (h : nanF .f64 x = true) : nanF .f64 (sqC x) = true := by
  obtain ⟨s, t, hd⟩ := read_nan h
  unfold sqC Format.sqrt
  rw [show FloatKind.f64.format.read x = .nan s t from hd]
  exact qnan_nan .f64
theorem sqC_sim {x y : Nat} (h : Sim .f64 x y) : Sim .f64 (sqC x) (sqC y) := by
  rcases h with rfl | ⟨h1, h2⟩
  · exact .refl _ _
  · exact .inr ⟨sqC_nan h1, sqC_nan h2⟩
theorem run_sqrt (x : Nat) : (∀ w, (callFunc 34 #[.float .f64 x]).run Try.prog w = .ok (.value (.float .f64 (sqC x))) w) ∨ (∃ f : World → Nat, ∀ w, (callFunc 34 #[.float .f64 x]).run Try.prog w = .ok (.value (.float .f64 (f w))) w.drew ∧ Sim .f64 (f w) (sqC x)) := by
  have key : ∀ w, (callFunc 34 #[.float .f64 x]).run Try.prog w = ((Extern.MathSqrt.sqrt #[.float .f64 x]).run Try.prog w).andThen fun v w' => .ok (.value v) w' := fun w => run_callFunc_extern (e := Extern.MathSqrt.sqrt) Try.func34 (by kernel_rfl) (by kernel_rfl) (by kernel_rfl) (by kernel_rfl) _ _
  have hent : ∀ w, (Extern.MathSqrt.sqrt #[.float .f64 x]).run Try.prog w = (match FloatKind.f64.format.sqrt x with | some r => (pure (Value.float .f64 r) : Sem Value) | none => do pure (.float .f64 (← choose (.nanBits .f64 x x)))).run Try.prog w := fun _ => rfl
  cases h : FloatKind.f64.format.sqrt x with
  | some r =>
    left
    intro w
    rw [key, hent, h]
    show _ = Result.ok (Next.value (Value.float .f64 (sqC x))) w
    unfold sqC
    rw [h]
    rfl
  | none =>
    right
    refine ⟨fun w => (Question.nanBits .f64 x x).cut (w.tape w.drawn (.nanBits .f64 x x)), fun w => ⟨?_, .inr ⟨nan_bits64 x x _, ?_⟩⟩⟩
    · rw [key, hent, h]
      simp [Question.forced]
    · unfold sqC
      rw [h]
      exact qnan_nan .f64
set_option maxHeartbeats 400000 in
theorem mathSqrt_any (x c : Nat) (w : World) (h : Sim .f64 x c) : Calls Try.prog 28 #[.float .f64 x] w fun e w' => (∃ r, e = .returned (.float .f64 r) ∧ Sim .f64 r (sqC c)) ∧ ∃ m, w' = w.drewN m := by
  have HS := Lib.hid (sqC_sim h); clear h
  rcases run_sqrt x with hr | ⟨f, hf⟩
  · go_enter Try.func28, Try.ntmps28
    go_wp2
    go_ret
    exact ⟨⟨_, rfl, HS.out⟩, 0, rfl⟩
  · have hr := fun w => (hf w).1
    have H2 := Lib.hid (fun w => (hf w).2)
    clear hf
    go_enter Try.func28, Try.ntmps28
    go_wp2
    go_ret
    exact ⟨⟨_, rfl, (H2.out _).trans HS.out⟩, 1, rfl⟩
theorem rootFrom_sq (n : Nat) : ∀ (todo root : Nat), root * root ≤ n → Datum.rootFrom n todo root * Datum.rootFrom n todo root ≤ n := by
  intro todo
  induction todo with
  | zero => intro root h; exact h
  | succ t ih =>
    intro root h
    unfold Datum.rootFrom
    dsimp only
    split
    · rename_i h2; exact ih _ h2
    · exact ih _ h
theorem fits_root {d : Datum} {E : Int} (g : Nat) (h : Fits d E) {r : Datum} (hr : d.root g = some r) : Fits r (E / 2 + 2) := by
  obtain ⟨s, m, i, rfl, h⟩ := h
  unfold Datum.root at hr
  dsimp only at hr
  by_cases hm : m = 0
  · rw [if_pos hm] at hr
    injection hr with hr
    exact ⟨s, m, i, hr.symm, .inl hm⟩
  · rw [if_neg hm] at hr
    cases s
    · rw [if_neg (by decide)] at hr
      injection hr with hr
      obtain ⟨more, hmore⟩ : ∃ more, more = 2 * g - m.log2 + ((i - ((2 * g - m.log2 : Nat) : Int)) % 2).toNat := ⟨_, rfl⟩
      rw [← hmore] at hr
      obtain ⟨whole, hw⟩ : ∃ whole, whole = Datum.rootFrom (m <<< more) ((m <<< more).log2 / 2 + 1) 0 := ⟨_, rfl⟩
      have hsq := rootFrom_sq (m <<< more) ((m <<< more).log2 / 2 + 1) 0 (Nat.zero_le _)
      rw [← hw] at hr hsq
      refine ⟨_, _, _, hr.symm, ?_⟩
      have hs : ∀ b : Bool, b.toNat ≤ 1 := fun b => by cases b <;> simp
      have hb := hs (whole * whole != m <<< more)
      by_cases h0 : 2 * whole + (whole * whole != m <<< more).toNat = 0
      · exact .inl h0
      · right
        have h1 := h.resolve_left hm
        have hlog : (2 * whole + (whole * whole != m <<< more).toNat).log2 < (m.log2 + more) / 2 + 2 := by
          rw [Nat.log2_lt h0]
          have hwl : whole < 2 ^ ((m.log2 + more) / 2 + 1) := by
            apply Classical.byContradiction
            intro hn
            have hn2 : 2 ^ ((m.log2 + more) / 2 + 1) ≤ whole := by omega
            have h3 : 2 ^ ((m.log2 + more) / 2 + 1) * 2 ^ ((m.log2 + more) / 2 + 1) ≤ whole * whole := Nat.mul_le_mul hn2 hn2
            rw [← Nat.pow_add] at h3
            have h4 : m <<< more < 2 ^ (m.log2 + 1 + more) := by
              rw [Nat.shiftLeft_eq, Nat.pow_add]
              exact Nat.mul_lt_mul_of_pos_right lt_pow (Nat.two_pow_pos _)
            have h5 : 2 ^ (m.log2 + 1 + more) ≤ 2 ^ ((m.log2 + more) / 2 + 1 + ((m.log2 + more) / 2 + 1)) := Nat.pow_le_pow_right (by omega) (by omega)
            omega
          rw [Nat.pow_succ]
          omega
        omega
    · rw [if_pos rfl] at hr
      cases hr
/-- the square root of a float32 -/
def rootC (x : Nat) : Nat := nar (sqC (wid x))
theorem rootC_sim {x y : Nat} (h : Sim .f32 x y) : Sim .f32 (rootC x) (rootC y) := nar_sim (sqC_sim (wid_sim h))
theorem inf_wid {x : Nat} {s : Bool} (h : FloatKind.f32.format.read x = .infinity s) : FloatKind.f64.format.read (wid x) = .infinity s := by
  have : floatToFloatBits .f32 x .f64 = some (FloatKind.f64.encode (.infinity s)) := by
    unfold floatToFloatBits
    rw [if_neg (by decide), show FloatKind.f32.decode x = .infinity s from h]
  unfold wid
  rw [this]
  exact inf_read .f64 s
theorem fits_wid {x : Nat} {E : Int} (h : Fits (FloatKind.f32.format.read x) E) (hE : E ≤ 127) : Fits (FloatKind.f64.format.read (wid x)) 129 := by
  have hn := (fits_nan h).1
  have h1 := (wid_num (x := x) hn).1
  have h2 := fits_enc .f64 (fits_mono h (show E ≤ 128 by omega)) (by decide) (by decide)
  obtain ⟨s, m, p, he, _⟩ := h
  unfold floatToFloatBits at h1
  rw [if_neg (by decide), show FloatKind.f32.decode x = .number s m p from he] at h1
  rw [he] at h2
  dsimp only at h1
  split at h1
  · cases h1
  · rw [← Option.some.inj h1]
    exact h2
theorem inf_nar {r : Nat} {s : Bool} (h : FloatKind.f64.format.read r = .infinity s) : Nar r ∧ FloatKind.f32.format.read (nar r) = .infinity s := by
  have : floatToFloatBits .f64 r .f32 = some (FloatKind.f32.encode (.infinity s)) := by
    unfold floatToFloatBits
    rw [if_neg (by decide), show FloatKind.f64.decode r = .infinity s from h]
  refine ⟨.inr ⟨_, this⟩, ?_⟩
  unfold nar
  rw [this]
  exact inf_read .f32 s
theorem root_nar (x : Nat) : Nar (sqC (wid x)) := by
  rcases read_cases .f32 x with h | ⟨s, h⟩ | h
  · exact .inl (sqC_nan (wid_nan h))
  · have hw := inf_wid h
    cases s
    · have : sqC (wid x) = FloatKind.f64.format.write (.infinity false) := by unfold sqC Format.sqrt; rw [hw]; rfl
      exact (inf_nar (s := false) (by rw [this]; exact inf_read .f64 false)).1
    · left
      have : sqC (wid x) = qnan .f64 := by unfold sqC Format.sqrt; rw [hw]; rfl
      rw [this]
      exact qnan_nan .f64
  · have hw := fits_wid h (by decide)
    cases hr : (FloatKind.f64.format.read (wid x)).root (FloatKind.f64.format.fractionBits + 2) with
    | none =>
      left
      have : sqC (wid x) = qnan .f64 := by unfold sqC Format.sqrt; rw [hr]; rfl
      rw [this]
      exact qnan_nan .f64
    | some d =>
      have hd : Fits d 66 := fits_root _ hw hr
      have : sqC (wid x) = FloatKind.f64.format.write d := by unfold sqC Format.sqrt; rw [hr]; rfl
      rw [this]
      exact (fits_nar (fits_enc .f64 hd (by decide) (by decide)) (by decide)).1
end Go.Proofs.Ytikleaiflmoffaa

-- Square roots and logarithms of float32s, both ways.
namespace Go.Proofs.Ytikleaiflmoffaa
open Ieee Go.RowKit
theorem Try.und27 : Try.prog.underlying 27 = some (.float .f32) := by kernel_rfl
theorem Try.und41 : Try.prog.underlying 41 = some (.float .f64) := by kernel_rfl
theorem order_num (k : FloatKind) {x : Nat} {s : Bool} {m : Nat} {p : Int} (hr : k.format.read x = .number s m p) (h : k.format.order x 0 = some .gt) : s = false ∧ m ≠ 0 := by
  obtain ⟨q, h0⟩ : ∃ q, k.format.read 0 = .number false 0 q := by cases k <;> exact ⟨_, rfl⟩
  unfold Format.order at h
  rw [hr, h0] at h
  unfold Datum.order at h
  dsimp only at h
  injection h with h
  rw [Int.compare_eq_gt] at h
  have hz : signed false 0 (q - min p q).toNat = 0 := by unfold signed; simp
  rw [hz] at h
  unfold signed at h
  cases s
  · refine ⟨rfl, ?_⟩
    rintro rfl
    simp at h
  · rw [if_pos rfl] at h
    have := Int.natCast_nonneg (m <<< (p - min p q).toNat)
    omega
theorem pos_of {x : Nat} (hf : finB x = true) (h : FloatKind.f32.format.order x 0 = some .gt) : Pos x := by
  have hn := fin_num hf
  rcases read_cases .f32 x with h1 | ⟨s, h1⟩ | ⟨s, m, p, h1, _⟩
  · unfold nanF at hn; rw [h1] at hn; cases hn
  · exfalso
    have : floatBits .sub .f32 x x = none := by
      unfold floatBits
      show Option.map _ _ = none
      rw [h1]
      cases s <;> rfl
    rw [finB_none this] at hf
    cases hf
  · obtain ⟨rfl, hm⟩ := order_num .f32 h1 h
    exact ⟨m, p, h1, hm⟩
/-- the logarithm of a positive float32 -/
def logC (x : Nat) : Nat := nar (logW (wid x))
theorem logW_fits (b : Nat) (h : 870 * bin ≤ b ∧ b < 1152 * bin) : Fits (FloatKind.f64.format.read (logW b)) 85 := by
  unfold logW
  have hm : 0 ≤ ((b : Int) - (c075 : Int)) % (bin : Int) ∧ ((b : Int) - (c075 : Int)) % (bin : Int) < bin := ⟨Int.emod_nonneg _ (by decide), Int.emod_lt_of_pos _ (by decide)⟩
  have hd := Int.emod_add_mul_ediv ((b : Int) - (c075 : Int)) (bin : Int)
  refine logR_fits ?_ ?_ ?_ ?_
  · unfold logT; omega
  · unfold logT; unfold bin c075 c15 at *; omega
  · unfold logE; unfold bin c075 at *; omega
  · unfold logE; unfold bin c075 at *; omega
theorem logC_pos {x : Nat} (h : Pos x) : floatToFloatBits .f64 (logW (wid x)) .f32 = some (logC x) ∧ nanF .f32 (logC x) = false := by
  obtain ⟨h1, h2, _⟩ := pos_range h
  have hf := logW_fits _ ⟨h1, h2⟩
  obtain ⟨hn, h4⟩ := fits_nar hf (by decide)
  refine ⟨?_, h4⟩
  rcases hn with hn | ⟨r, hr⟩
  · rw [fits_num hf] at hn; cases hn
  · unfold logC nar
    rw [hr]; rfl
end Go.Proofs.Ytikleaiflmoffaa

-- Lists of ints that lie between bounds: the program's test.
namespace Go.Proofs.Ytikleaiflmoffaa
open Go.RowKit
/-- no number of a list lies outside -/
def rngI (lo hi : Int) (xs : List Int) : Bool := !xs.any fun x => !inB x lo hi
end Go.Proofs.Ytikleaiflmoffaa

-- Lists of masses, both ways to ask for them.
namespace Go.Proofs.Ytikleaiflmoffaa
open Go.RowKit
def posB (xs : List Int) : Bool := xs.any fun x => decide (0 < x)
/-- a list are masses -/
def massB (xs : List Int) : Bool := decide (1 ≤ xs.length ∧ xs.length ≤ 256) && (rngI 0 1000000 xs && posB xs)
theorem posB_snoc {xs : List Int} {k : Nat} (h : k < xs.length) : posB (xs.take (k + 1)) = (posB (xs.take k) || decide (0 < xs[k])) := by
  unfold posB
  rw [List.take_succ_eq_append_getElem h, List.any_append]
  simp
theorem rngI_bad {lo hi : Int} {xs : List Int} {k : Nat} (h : k < xs.length) (hb : inB xs[k] lo hi = false) : rngI lo hi xs = false := by
  unfold rngI
  rw [any_found h (by rw [hb]; rfl)]
  rfl
theorem rngI_mem {lo hi : Int} {xs : List Int} (h : rngI lo hi xs = true) : ∀ x ∈ xs, lo ≤ x ∧ x ≤ hi := by
  intro x hx
  unfold rngI at h
  have h2 : (xs.any fun x => !inB x lo hi) = false := by simpa using h
  rw [List.any_eq_false] at h2
  have := h2 x hx
  simpa [inB] using this
/-- the sum of masses, if they are such -/
def massS (xs : List Int) : Int := if decide (1 ≤ xs.length ∧ xs.length ≤ 256) && rngI 0 1000000 xs then xs.sum else 0
theorem sum_snoc {xs : List Int} {k : Nat} (h : k < xs.length) : (xs.take (k + 1)).sum = (xs.take k).sum + xs[k] := by
  rw [List.take_succ_eq_append_getElem h, List.sum_append]; simp
theorem ret_ib' {a a' : Int} {b b' : Bool} (h : a = a') (h' : b = b') : Ending.returned (.tuple #[.int .i64 a, .bool b]) = .returned (.tuple #[.int .i64 a', .bool b']) := by rw [h, h']
end Go.Proofs.Ytikleaiflmoffaa

-- Logarithms of lists of float32s, both ways.
namespace Go.Proofs.Ytikleaiflmoffaa
open Ieee Go.RowKit
/-- a list: not too long, all finite -/
def listB (xs : List Nat) : Bool := decide (xs.length ≤ 256) && finL xs
theorem listB_len {xs : List Nat} (h : listB xs = true) : xs.length ≤ 256 ∧ finL xs = true := by
  unfold listB at h
  rw [Bool.and_eq_true, decide_eq_true_eq] at h
  exact h
theorem finL_mem {xs : List Nat} (h : finL xs = true) : ∀ x ∈ xs, finB x = true := by
  intro x hx
  unfold finL at h
  have h2 : (xs.any fun x => !finB x) = false := by simpa using h
  rw [List.any_eq_false] at h2
  have := h2 x hx
  simpa using this
theorem order_some (k : FloatKind) {x y : Nat} (hx : nanF k x = false) (hy : nanF k y = false) : ∃ o, k.format.order x y = some o := by
  unfold nanF at hx hy
  unfold Format.order
  cases h1 : k.format.read x with
  | nan s t => rw [h1] at hx; cases hx
  | infinity s => cases h2 : k.format.read y with
    | nan s t => rw [h2] at hy; cases hy
    | infinity s => exact ⟨_, rfl⟩
    | number s m p => exact ⟨_, rfl⟩
  | number s m p => cases h2 : k.format.read y with
    | nan s t => rw [h2] at hy; cases hy
    | infinity s => exact ⟨_, rfl⟩
    | number s m p => exact ⟨_, rfl⟩
/-- greater than nought -/
def gtB (x : Nat) : Bool := FloatKind.f32.format.order x 0 == some .gt
theorem gtB_t {x : Nat} (h : gtB x = true) : FloatKind.f32.format.order x 0 = some .gt := by
  unfold gtB at h
  exact eq_of_beq h
theorem gtB_f {x : Nat} (hf : finB x = true) (h : gtB x = false) : FloatKind.f32.format.order x 0 = some .lt ∨ FloatKind.f32.format.order x 0 = some .eq := by
  obtain ⟨o, ho⟩ := order_some .f32 (fin_num hf) num_zero
  unfold gtB at h
  rw [ho] at h ⊢
  cases o
  · exact .inl rfl
  · exact .inr rfl
  · cases h
def logOk (xs : List Nat) : Bool := listB xs && !(xs.any fun x => !gtB x)
def logsR (xs : List Nat) : List Nat := if logOk xs = true then xs.map logC else []
/-- a list of floats of the call's own, and whether it is told -/
def GivesF (B : Nat) (ls : List Nat) (ok : Bool) (e : Ending) (w' : World) : Prop := ∃ A c, e = .returned (.tuple #[.slice A ls.length c, .bool ok]) ∧ w'.ownsRow B 27 1 (.slice A ls.length c) ls.length (ls.map (Value.float .f32))
theorem logsR_len (xs : List Nat) (h : xs.length ≤ 1048576) : (logsR xs).length ≤ 1048576 := by
  unfold logsR
  split
  · rw [List.length_map]; exact h
  · simp
end Go.Proofs.Ytikleaiflmoffaa
