/- The logarithm of a positive number: halves and doubles of a word, and that the result is not great. Plain. -/
import Derived.Test.YtcpimcjmckljfaaFix
namespace Go.Proofs.Ytcpimcjmckljfaa
open Ieee
/-- one binade of float64 -/
def bin : Nat := 4503599627370496
def c1 : Nat := 4607182418800017408
def c2 : Nat := 4611686018427387904
def c15 : Nat := 4609434218613702656
def c075 : Nat := 4604930618986332160
def cln2 : Nat := 4604418534313441775
def inf64 : Nat := 9218868437227405312
theorem log2_of {m k : Nat} (h1 : 2 ^ k ≤ m) (h2 : m < 2 ^ (k + 1)) : m.log2 = k :=
  (Nat.log2_eq_iff (by have := Nat.two_pow_pos k; omega)).2 ⟨h1, h2⟩
theorem read64 {b : Nat} (h1 : bin ≤ b) (h2 : b < inf64) : FloatKind.f64.format.read b = .number false (bin + b % bin) (-1074 + (b / bin - 1 : Nat)) := by
  obtain ⟨fb, fi, fl, _⟩ := fmt64
  have hs : FloatKind.f64.format.signWeight = 9223372036854775808 := by decide
  unfold bin at *
  unfold inf64 at h2
  unfold Format.read
  rw [fb, fi, fl, hs]
  dsimp only
  have e1 : b % 9223372036854775808 = b := Nat.mod_eq_of_lt (by omega)
  have e2 : (b / 9223372036854775808 % 2 == 1) = false := by rw [Nat.div_eq_of_lt (by omega)]; rfl
  rw [e1, e2, if_neg (by omega), if_pos h2]
theorem m_log {b : Nat} : (bin + b % bin).log2 = 52 := by
  have := Nat.mod_lt b (show 0 < bin by decide)
  refine log2_of (by show (4503599627370496 : Nat) ≤ _; unfold bin; omega) (by show _ < (9007199254740992 : Nat); unfold bin at *; omega)
theorem word_pos (f : Format) (z : Nat) : f.word (false ^^ false) z = z := by simp [Format.word]
theorem half_word {b : Nat} (h1 : 2 * bin ≤ b) (h2 : b < inf64) : floatBits .quo .f64 b c2 = some (b - bin) := by
  have hb : bin ≤ b := by unfold bin at *; omega
  have hr := read64 hb h2
  have hc : FloatKind.f64.format.read c2 = .number false bin (-51) := by decide
  obtain ⟨fb, fi, fl, ff⟩ := fmt64
  have hm := Nat.mod_lt b (show 0 < bin by decide)
  unfold floatBits Format.div
  dsimp only
  rw [hr, hc, ff]
  obtain ⟨m, hmd⟩ : ∃ m, m = bin + b % bin := ⟨_, rfl⟩
  have hml : m.log2 = 52 := by rw [hmd]; exact m_log
  rw [← hmd]
  unfold Datum.quotient
  dsimp only
  rw [if_neg (by decide), hml, show bin.log2 = 52 by decide, show 52 + 2 + 52 - 52 = 54 by rfl, Nat.shiftLeft_eq]
  have hq : m * 2 ^ 54 / bin = 4 * m := by
    rw [show (2 : Nat) ^ 54 = 4 * bin by decide, ← Nat.mul_assoc, Nat.mul_div_cancel _ (by decide), Nat.mul_comm]
  have hq0 : m * 2 ^ 54 % bin = 0 := by
    rw [show (2 : Nat) ^ 54 = 4 * bin by decide, ← Nat.mul_assoc, Nat.mul_mod_left]
  rw [hq, hq0]
  have hm0 : m ≠ 0 := by rw [hmd]; unfold bin; omega
  have hl8 : (2 * (4 * m) + 0).log2 = 55 := by
    refine log2_of ?_ ?_
    · show (36028797018963968 : Nat) ≤ _; rw [hmd]; unfold bin; omega
    · show _ < (72057594037927936 : Nat); rw [hmd]; unfold bin at *; omega
  obtain ⟨i, hi⟩ : ∃ i : Int, i = -1074 + ((b / bin - 1 : Nat) : Int) := ⟨_, rfl⟩
  have hbd : 2 ≤ b / bin := by rw [Nat.le_div_iff_mul_le (by decide)]; exact h1
  rw [← hi]
  have hmore : ((0 : Nat) != 0).toNat = 0 := rfl
  rw [hmore]
  simp only [Option.map_some]
  unfold Format.write Format.nearest
  dsimp only
  rw [if_neg (by omega), hl8, fl, ff, fb, fi]
  have hlast : max (i - (-51) - ((54 : Nat) : Int) - 1 + ((55 : Nat) : Int) - ((52 : Nat) : Int)) (-1074) = i - 1 := by omega
  rw [hlast, show (i - (-51) - ((54 : Nat) : Int) - 1 - (i - 1)).toNat = 0 by omega, show (i - 1 - (i - (-51) - ((54 : Nat) : Int) - 1)).toNat = 3 by omega, Nat.shiftLeft_zero]
  have hcut : Toward.even.cut (false ^^ false) (2 * (4 * m) + 0) 3 = m := by
    unfold Toward.cut
    rw [hl8]
    have e1 : (2 * (4 * m) + 0) / (1 <<< min 3 (55 + 2)) = m := by rw [show 1 <<< min 3 (55 + 2) = 8 by decide]; omega
    have e2 : (2 * (4 * m) + 0) % (1 <<< min 3 (55 + 2)) = 0 := by rw [show 1 <<< min 3 (55 + 2) = 8 by decide]; omega
    simp only [e1, e2]
    simp
  rw [hcut]
  refine congrArg some ?_
  have hw : (i - 1 - (-1074)).toNat = b / bin - 2 := by omega
  rw [hw]
  have hdm := Nat.div_add_mod b bin
  have hval : (b / bin - 2) * 4503599627370496 + m = b - bin := by
    rw [hmd]
    show (b / bin - 2) * bin + (bin + b % bin) = b - bin
    have h3 : (b / bin - 2) * bin + 2 * bin = bin * (b / bin) := by rw [← Nat.add_mul, Nat.mul_comm]; congr 1; omega
    omega
  rw [word_pos, hval]
  exact Nat.min_eq_left (by unfold inf64 at h2; omega)
theorem dbl_word {b : Nat} (h1 : bin ≤ b) (h2 : b + bin < inf64) : floatBits .mul .f64 b c2 = some (b + bin) := by
  have hr := read64 h1 (by omega)
  have hc : FloatKind.f64.format.read c2 = .number false bin (-51) := by decide
  obtain ⟨fb, fi, fl, ff⟩ := fmt64
  have hm := Nat.mod_lt b (show 0 < bin by decide)
  unfold floatBits Format.mul
  dsimp only
  rw [hr, hc]
  obtain ⟨m, hmd⟩ : ∃ m, m = bin + b % bin := ⟨_, rfl⟩
  rw [← hmd]
  unfold Datum.product
  dsimp only
  have hm0 : m ≠ 0 := by rw [hmd]; unfold bin; omega
  have hl8 : (m * bin).log2 = 104 := by
    refine log2_of ?_ ?_
    · show (20282409603651670423947251286016 : Nat) ≤ _; rw [hmd]; unfold bin; omega
    · show _ < (40564819207303340847894502572032 : Nat); rw [hmd]; unfold bin at *; omega
  obtain ⟨i, hi⟩ : ∃ i : Int, i = -1074 + ((b / bin - 1 : Nat) : Int) := ⟨_, rfl⟩
  have hbd : 1 ≤ b / bin := by rw [Nat.le_div_iff_mul_le (by decide)]; omega
  rw [← hi]
  simp only [Option.map_some]
  unfold Format.write Format.nearest
  dsimp only
  rw [if_neg (Nat.mul_ne_zero hm0 (by decide)), hl8, fl, ff, fb, fi]
  have hlast : max (i + -51 + ((104 : Nat) : Int) - ((52 : Nat) : Int)) (-1074) = i + 1 := by omega
  rw [hlast, show (i + -51 - (i + 1)).toNat = 0 by omega, show (i + 1 - (i + -51)).toNat = 52 by omega, Nat.shiftLeft_zero]
  have hcut : Toward.even.cut (false ^^ false) (m * bin) 52 = m := by
    unfold Toward.cut
    rw [hl8]
    have e1 : (m * bin) / (1 <<< min 52 (104 + 2)) = m := by rw [show 1 <<< min 52 (104 + 2) = bin by decide]; exact Nat.mul_div_cancel _ (by decide)
    have e2 : (m * bin) % (1 <<< min 52 (104 + 2)) = 0 := by rw [show 1 <<< min 52 (104 + 2) = bin by decide]; exact Nat.mul_mod_left _ _
    simp only [e1, e2]
    simp
  rw [hcut]
  refine congrArg some ?_
  have hw : (i + 1 - (-1074)).toNat = b / bin := by omega
  rw [hw]
  have hdm := Nat.div_add_mod b bin
  have hval : b / bin * 4503599627370496 + m = b + bin := by
    rw [hmd]
    show b / bin * bin + (bin + b % bin) = b + bin
    rw [Nat.mul_comm]
    omega
  rw [word_pos, hval]
  exact Nat.min_eq_left (by unfold inf64 at h2; omega)
/-- the order of positive words -/
theorem order_lt {a c : Nat} (ha : bin ≤ a) (hac : a < c) (hc : c < inf64) : FloatKind.f64.format.order a c = some .lt ∧ FloatKind.f64.format.order c a = some .gt := by
  have hra := read64 ha (by omega)
  have hrc := read64 (show bin ≤ c by omega) hc
  have hda := Nat.div_add_mod a bin
  have hdc := Nat.div_add_mod c bin
  have hma := Nat.mod_lt a (show 0 < bin by decide)
  have hmc := Nat.mod_lt c (show 0 < bin by decide)
  have hle : a / bin ≤ c / bin := Nat.div_le_div_right (by omega)
  have h1a : 1 ≤ a / bin := by rw [Nat.le_div_iff_mul_le (by decide)]; omega
  have key : (bin + a % bin) * 2 ^ ((-1074 + ((a / bin - 1 : Nat) : Int)) - min (-1074 + ((a / bin - 1 : Nat) : Int)) (-1074 + ((c / bin - 1 : Nat) : Int))).toNat < (bin + c % bin) * 2 ^ ((-1074 + ((c / bin - 1 : Nat) : Int)) - min (-1074 + ((a / bin - 1 : Nat) : Int)) (-1074 + ((c / bin - 1 : Nat) : Int))).toNat := by
    rw [show ((-1074 + ((a / bin - 1 : Nat) : Int)) - min (-1074 + ((a / bin - 1 : Nat) : Int)) (-1074 + ((c / bin - 1 : Nat) : Int))).toNat = 0 by omega, Nat.pow_zero, Nat.mul_one]
    rw [show ((-1074 + ((c / bin - 1 : Nat) : Int)) - min (-1074 + ((a / bin - 1 : Nat) : Int)) (-1074 + ((c / bin - 1 : Nat) : Int))).toNat = c / bin - a / bin by omega]
    by_cases he : a / bin = c / bin
    · rw [he, Nat.sub_self, Nat.pow_zero, Nat.mul_one]
      rw [he] at hda
      omega
    · have h2 : 2 ^ 1 ≤ 2 ^ (c / bin - a / bin) := Nat.pow_le_pow_right (by omega) (by omega)
      have h3 : (bin + c % bin) * 2 ≤ (bin + c % bin) * 2 ^ (c / bin - a / bin) := Nat.mul_le_mul_left _ h2
      omega
  have key2 : signed false (bin + a % bin) ((-1074 + ((a / bin - 1 : Nat) : Int)) - min (-1074 + ((a / bin - 1 : Nat) : Int)) (-1074 + ((c / bin - 1 : Nat) : Int))).toNat < signed false (bin + c % bin) ((-1074 + ((c / bin - 1 : Nat) : Int)) - min (-1074 + ((a / bin - 1 : Nat) : Int)) (-1074 + ((c / bin - 1 : Nat) : Int))).toNat := by
    unfold signed
    rw [if_neg (by decide), if_neg (by decide), Nat.shiftLeft_eq, Nat.shiftLeft_eq]
    exact Int.ofNat_lt.2 key
  unfold Format.order
  rw [hra, hrc]
  unfold Datum.order
  dsimp only
  rw [Int.min_comm (-1074 + ((c / bin - 1 : Nat) : Int)) (-1074 + ((a / bin - 1 : Nat) : Int))]
  exact ⟨by rw [Int.compare_eq_lt.2 key2], by rw [Int.compare_eq_gt.2 key2]⟩
theorem order_eq {a : Nat} (ha : bin ≤ a) (hc : a < inf64) : FloatKind.f64.format.order a a = some .eq := by
  refine order_self ?_
  unfold nanF
  rw [read64 ha hc]
  rfl
end Go.Proofs.Ytcpimcjmckljfaa
