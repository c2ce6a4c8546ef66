/- Log, LogB, LogWalk, LogSpec, Ext, Roots, Within, Masses, Logs -/
import Derived.Test.YtbojlgbkkdnegaaBa
import Derived.Outline
import Derived.Deep.LoopGhost
import Derived.Laws.Externs
-- The logarithm of a positive number: halves and doubles of a word, and that the result is not great. Plain.
namespace Go.Proofs.Ytbojlgbkkdnegaa
open Ieee
/-- one binade of float64 -/
def bin : Nat := 4503599627370496
def c1 : Nat := 4607182418800017408
def c2 : Nat := 4611686018427387904
def c15 : Nat := 4609434218613702656
def c075 : Nat := 4604930618986332160
def cln2 : Nat := 4604418534313441775
def inf64 : Nat := 9218868437227405312
theorem log2_of {m k : Nat} (h1 : 2 ^ k ≤ m) (h2 : m < 2 ^ (k + 1)) : m.log2 = k :=
  (Nat.log2_eq_iff (by have := Nat.two_pow_pos k; omega)).2 ⟨h1, h2⟩
theorem read64 {b : Nat} (h1 : bin ≤ b) (h2 : b < inf64) : FloatKind.f64.format.read b = .number false (bin + b % bin) (-1074 + (b / bin - 1 : Nat)) := by
  obtain ⟨fb, fi, fl, _⟩ := fmt64
  have hs : FloatKind.f64.format.signWeight = 9223372036854775808 := by decide
  unfold bin at *
  unfold inf64 at h2
  unfold Format.read
  rw [fb, fi, fl, hs]
  dsimp only
  have e1 : b % 9223372036854775808 = b := Nat.mod_eq_of_lt (by omega)
  have e2 : (b / 9223372036854775808 % 2 == 1) = false := by rw [Nat.div_eq_of_lt (by omega)]; rfl
  rw [e1, e2, if_neg (by omega), if_pos h2]
theorem m_log {b : Nat} : (bin + b % bin).log2 = 52 := by
  have := Nat.mod_lt b (show 0 < bin by decide)
  refine log2_of (by show (4503599627370496 : Nat) ≤ _; unfold bin; omega) (by show _ < (9007199254740992 : Nat); unfold bin at *; omega)
theorem word_pos (f : Format) (z : Nat) : f.word (false ^^ false) z = z := by simp [Format.word]
theorem half_word {b : Nat} (h1 : 2 * bin ≤ b) (h2 : b < inf64) : floatBits .quo .f64 b c2 = some (b - bin) := by
  have hb : bin ≤ b := by unfold bin at *; omega
  have hr := read64 hb h2
  have hc : FloatKind.f64.format.read c2 = .number false bin (-51) := by decide
  obtain ⟨fb, fi, fl, ff⟩ := fmt64
  have hm := Nat.mod_lt b (show 0 < bin by decide)
  unfold floatBits Format.div
  dsimp only
  rw [hr, hc, ff]
  obtain ⟨m, hmd⟩ : ∃ m, m = bin + b % bin := ⟨_, rfl⟩
  have hml : m.log2 = 52 := by rw [hmd]; exact m_log
  rw [← hmd]
  unfold Datum.quotient
  dsimp only
  rw [if_neg (by decide), hml, show bin.log2 = 52 by decide, show 52 + 2 + 52 - 52 = 54 by rfl, Nat.shiftLeft_eq]
  have hq : m * 2 ^ 54 / bin = 4 * m := by
    rw [show (2 : Nat) ^ 54 = 4 * bin by decide, ← Nat.mul_assoc, Nat.mul_div_cancel _ (by decide), Nat.mul_comm]
  have hq0 : m * 2 ^ 54 % bin = 0 := by
    rw [show (2 : Nat) ^ 54 = 4 * bin by decide, ← Nat.mul_assoc, Nat.mul_mod_left]
  rw [hq, hq0]
  have hm0 : m ≠ 0 := by rw [hmd]; unfold bin; omega
  have hl8 : (2 * (4 * m) + 0).log2 = 55 := by
    refine log2_of ?_ ?_
    · show (36028797018963968 : Nat) ≤ _; rw [hmd]; unfold bin; omega
    · show _ < (72057594037927936 : Nat); rw [hmd]; unfold bin at *; omega
  obtain ⟨i, hi⟩ : ∃ i : Int, i = -1074 + ((b / bin - 1 : Nat) : Int) := ⟨_, rfl⟩
  have hbd : 2 ≤ b / bin := by rw [Nat.le_div_iff_mul_le (by decide)]; exact h1
  rw [← hi]
  have hmore : ((0 : Nat) != 0).toNat = 0 := rfl
  rw [hmore]
  simp only [Option.map_some]
  unfold Format.write Format.nearest
  dsimp only
  rw [if_neg (by omega), hl8, fl, ff, fb, fi]
  have hlast : max (i - (-51) - ((54 : Nat) : Int) - 1 + ((55 : Nat) : Int) - ((52 : Nat) : Int)) (-1074) = i - 1 := by omega
  rw [hlast, show (i - (-51) - ((54 : Nat) : Int) - 1 - (i - 1)).toNat = 0 by omega, show (i - 1 - (i - (-51) - ((54 : Nat) : Int) - 1)).toNat = 3 by omega, Nat.shiftLeft_zero]
  have hcut : Toward.even.cut (false ^^ false) (2 * (4 * m) + 0) 3 = m := by
    unfold Toward.cut
    rw [hl8]
    have e1 : (2 * (4 * m) + 0) / (1 <<< min 3 (55 + 2)) = m := by rw [show 1 <<< min 3 (55 + 2) = 8 by decide]; omega
    have e2 : (2 * (4 * m) + 0) % (1 <<< min 3 (55 + 2)) = 0 := by rw [show 1 <<< min 3 (55 + 2) = 8 by decide]; omega
    simp only [e1, e2]
    simp
  rw [hcut]
  refine congrArg some ?_
  have hw : (i - 1 - (-1074)).toNat = b / bin - 2 := by omega
  rw [hw]
  have hdm := Nat.div_add_mod b bin
  have hval : (b / bin - 2) * 4503599627370496 + m = b - bin := by
    rw [hmd]
    show (b / bin - 2) * bin + (bin + b % bin) = b - bin
    have h3 : (b / bin - 2) * bin + 2 * bin = bin * (b / bin) := by rw [← Nat.add_mul, Nat.mul_comm]; congr 1; omega
    omega
  rw [word_pos, hval]
  exact Nat.min_eq_left (by unfold inf64 at h2; omega)
theorem dbl_word {b : Nat} (h1 : bin ≤ b) (h2 : b + bin < inf64) : floatBits .mul .f64 b c2 = some (b + bin) := by
  have hr := read64 h1 (by omega)
  have hc : FloatKind.f64.format.read c2 = .number false bin (-51) := by decide
  obtain ⟨fb, fi, fl, ff⟩ := fmt64
  have hm := Nat.mod_lt b (show 0 < bin by decide)
  unfold floatBits Format.mul
  dsimp only
  rw [hr, hc]
  obtain ⟨m, hmd⟩ : ∃ m, m = bin + b % bin := ⟨_, rfl⟩
  rw [← hmd]
  unfold Datum.product
  dsimp only
  have hm0 : m ≠ 0 := by rw [hmd]; unfold bin; omega
  have hl8 : (m * bin).log2 = 104 := by
    refine log2_of ?_ ?_
    · show (20282409603651670423947251286016 : Nat) ≤ _; rw [hmd]; unfold bin; omega
    · show _ < (40564819207303340847894502572032 : Nat); rw [hmd]; unfold bin at *; omega
  obtain ⟨i, hi⟩ : ∃ i : Int, i = -1074 + ((b / bin - 1 : Nat) : Int) := ⟨_, rfl⟩
  have hbd : 1 ≤ b / bin := by rw [Nat.le_div_iff_mul_le (by decide)]; omega
  rw [← hi]
  simp only [Option.map_some]
  unfold Format.write Format.nearest
  dsimp only
  rw [if_neg (Nat.mul_ne_zero hm0 (by decide)), hl8, fl, ff, fb, fi]
  have hlast : max (i + -51 + ((104 : Nat) : Int) - ((52 : Nat) : Int)) (-1074) = i + 1 := by omega
  rw [hlast, show (i + -51 - (i + 1)).toNat = 0 by omega, show (i + 1 - (i + -51)).toNat = 52 by omega, Nat.shiftLeft_zero]
  have hcut : Toward.even.cut (false ^^ false) (m * bin) 52 = m := by
    unfold Toward.cut
    rw [hl8]
    have e1 : (m * bin) / (1 <<< min 52 (104 + 2)) = m := by rw [show 1 <<< min 52 (104 + 2) = bin by decide]; exact Nat.mul_div_cancel _ (by decide)
    have e2 : (m * bin) % (1 <<< min 52 (104 + 2)) = 0 := by rw [show 1 <<< min 52 (104 + 2) = bin by decide]; exact Nat.mul_mod_left _ _
    simp only [e1, e2]
    simp
  rw [hcut]
  refine congrArg some ?_
  have hw : (i + 1 - (-1074)).toNat = b / bin := by omega
  rw [hw]
  have hdm := Nat.div_add_mod b bin
  have hval : b / bin * 4503599627370496 + m = b + bin := by
    rw [hmd]
    show b / bin * bin + (bin + b % bin) = b + bin
    rw [Nat.mul_comm]
    omega
  rw [word_pos, hval]
  exact Nat.min_eq_left (by unfold inf64 at h2; omega)
/-- the order of positive words -/
theorem order_lt {a c : Nat} (ha : bin ≤ a) (hac : a < c) (hc : c < inf64) : FloatKind.f64.format.order a c = some .lt ∧ FloatKind.f64.format.order c a = some .gt := by
  have hra := read64 ha (by omega)
  have hrc := read64 (show bin ≤ c by omega) hc
  have hda := Nat.div_add_mod a bin
  have hdc := Nat.div_add_mod c bin
  have hma := Nat.mod_lt a (show 0 < bin by decide)
  have hmc := Nat.mod_lt c (show 0 < bin by decide)
  have hle : a / bin ≤ c / bin := Nat.div_le_div_right (by omega)
  have h1a : 1 ≤ a / bin := by rw [Nat.le_div_iff_mul_le (by decide)]; omega
  have key : (bin + a % bin) * 2 ^ ((-1074 + ((a / bin - 1 : Nat) : Int)) - min (-1074 + ((a / bin - 1 : Nat) : Int)) (-1074 + ((c / bin - 1 : Nat) : Int))).toNat < (bin + c % bin) * 2 ^ ((-1074 + ((c / bin - 1 : Nat) : Int)) - min (-1074 + ((a / bin - 1 : Nat) : Int)) (-1074 + ((c / bin - 1 : Nat) : Int))).toNat := by
    rw [show ((-1074 + ((a / bin - 1 : Nat) : Int)) - min (-1074 + ((a / bin - 1 : Nat) : Int)) (-1074 + ((c / bin - 1 : Nat) : Int))).toNat = 0 by omega, Nat.pow_zero, Nat.mul_one]
    rw [show ((-1074 + ((c / bin - 1 : Nat) : Int)) - min (-1074 + ((a / bin - 1 : Nat) : Int)) (-1074 + ((c / bin - 1 : Nat) : Int))).toNat = c / bin - a / bin by omega]
    by_cases he : a / bin = c / bin
    · rw [he, Nat.sub_self, Nat.pow_zero, Nat.mul_one]
      rw [he] at hda
      omega
    · have h2 : 2 ^ 1 ≤ 2 ^ (c / bin - a / bin) := Nat.pow_le_pow_right (by omega) (by omega)
      have h3 : (bin + c % bin) * 2 ≤ (bin + c % bin) * 2 ^ (c / bin - a / bin) := Nat.mul_le_mul_left _ h2
      omega
  have key2 : signed false (bin + a % bin) ((-1074 + ((a / bin - 1 : Nat) : Int)) - min (-1074 + ((a / bin - 1 : Nat) : Int)) (-1074 + ((c / bin - 1 : Nat) : Int))).toNat < signed false (bin + c % bin) ((-1074 + ((c / bin - 1 : Nat) : Int)) - min (-1074 + ((a / bin - 1 : Nat) : Int)) (-1074 + ((c / bin - 1 : Nat) : Int))).toNat := by
    unfold signed
    rw [if_neg (by decide), if_neg (by decide), Nat.shiftLeft_eq, Nat.shiftLeft_eq]
    exact Int.ofNat_lt.2 key
  unfold Format.order
  rw [hra, hrc]
  unfold Datum.order
  dsimp only
  rw [Int.min_comm (-1074 + ((c / bin - 1 : Nat) : Int)) (-1074 + ((a / bin - 1 : Nat) : Int))]
  exact ⟨by rw [Int.compare_eq_lt.2 key2], by rw [Int.compare_eq_gt.2 key2]⟩
theorem order_eq {a : Nat} (ha : bin ≤ a) (hc : a < inf64) : FloatKind.f64.format.order a a = some .eq := by
  refine order_self ?_
  unfold nanF
  rw [read64 ha hc]
  rfl
end Go.Proofs.Ytbojlgbkkdnegaa

-- The logarithm of a positive number: what the loops leave, and that the result fits a float32. Plain.
namespace Go.Proofs.Ytbojlgbkkdnegaa
open Ieee
def fitsB (d : Datum) (E : Int) : Bool := match d with | .number _ m p => decide (m = 0 ∨ p + m.log2 ≤ E) | _ => false
theorem fits_of {d : Datum} {E : Int} (h : fitsB d E = true) : Fits d E := by
  unfold fitsB at h
  split at h
  · rename_i s m p
    exact ⟨s, m, p, rfl, of_decide_eq_true h⟩
  · cases h
/-- a small integer as a float64 -/
def iof (z : Int) : Nat := floatOfInt .f64 z
theorem all_range {p : Nat → Bool} {n : Nat} (h : (List.range n).all p = true) {j : Nat} (hj : j < n) : p j = true := List.all_eq_true.1 h j (List.mem_range.2 hj)
theorem iof_up {j : Nat} (h : j < 200) : floatBits .add .f64 (iof (j : Int)) c1 = some (iof ((j : Int) + 1)) := by
  have key : (List.range 200).all (fun j => floatBits .add .f64 (iof (j : Int)) c1 == some (iof ((j : Int) + 1))) = true := by decide +kernel
  simpa using all_range key h
theorem iof_down {j : Nat} (h : j < 200) : floatBits .sub .f64 (iof (-(j : Int))) c1 = some (iof (-(j : Int) - 1)) := by
  have key : (List.range 200).all (fun j => floatBits .sub .f64 (iof (-(j : Int))) c1 == some (iof (-(j : Int) - 1))) = true := by decide +kernel
  simpa using all_range key h
theorem iof_fits {z : Int} (h1 : -200 ≤ z) (h2 : z ≤ 200) : Fits (FloatKind.f64.format.read (iof z)) 8 := by
  have key : (List.range 401).all (fun j => fitsB (FloatKind.f64.format.read (iof ((j : Int) - 200))) 8) = true := by decide +kernel
  have h := all_range key (j := (z + 200).toNat) (by omega)
  rw [show (((z + 200).toNat : Nat) : Int) - 200 = z by omega] at h
  exact fits_of h
/-- the divisors 25, 23, .., 1 -/
theorem div_fits {j : Nat} (h : j < 13) : Fits (FloatKind.f64.format.read (fop .quo .f64 c1 (iof (25 - 2 * (j : Int))))) 1 := by
  have key : (List.range 13).all (fun j => fitsB (FloatKind.f64.format.read (fop .quo .f64 c1 (iof (25 - 2 * (j : Int))))) 1) = true := by decide +kernel
  exact fits_of (all_range key h)
theorem div_down {j : Nat} (h : j < 13) : floatBits .sub .f64 (iof (25 - 2 * (j : Int))) c2 = some (iof (25 - 2 * ((j : Int) + 1))) ∧ (FloatKind.f64.format.order (iof (25 - 2 * (j : Int))) c1 == some .gt || FloatKind.f64.format.order (iof (25 - 2 * (j : Int))) c1 == some .eq) = true := by
  have key : (List.range 13).all (fun j => floatBits .sub .f64 (iof (25 - 2 * (j : Int))) c2 == some (iof (25 - 2 * ((j : Int) + 1))) && (FloatKind.f64.format.order (iof (25 - 2 * (j : Int))) c1 == some .gt || FloatKind.f64.format.order (iof (25 - 2 * (j : Int))) c1 == some .eq)) = true := by decide +kernel
  have h := all_range key h
  rw [Bool.and_eq_true] at h
  exact ⟨by simpa using h.1, h.2⟩
theorem div_end : FloatKind.f64.format.order (iof (25 - 2 * 13)) c1 = some .lt := by decide +kernel
theorem iof_zero : iof 0 = 0 := by decide
theorem iof_25 : iof 25 = 4627730092099895296 := by decide
def logS (t : Nat) : Nat := fop .quo .f64 (fop .sub .f64 t c1) (fop .add .f64 t c1)
def logU (t : Nat) : Nat := fop .mul .f64 (logS t) (logS t)
def logQ (u : Nat) : Nat → Nat
  | 0 => 0
  | j + 1 => fop .add .f64 (fop .quo .f64 c1 (iof (25 - 2 * (j : Int)))) (fop .mul .f64 u (logQ u j))
def logR (t : Nat) (e : Int) : Nat := fop .add .f64 (fop .mul .f64 c2 (fop .mul .f64 (logS t) (logQ (logU t) 13))) (fop .mul .f64 (iof e) cln2)
theorem lows (k : FloatKind) : k.format.leastPlace + k.format.fractionBits ≤ -10 := by cases k <;> decide
/-- what is left of t when one is taken is less than a half; with one put to it it is not less than one -/
theorem t_parts {t : Nat} (h1 : c075 ≤ t) (h2 : t < c15) : Fits (FloatKind.f64.format.read (fop .sub .f64 t c1)) (-1) ∧ ∃ n j, FloatKind.f64.format.read (fop .add .f64 t c1) = .number false n j ∧ n ≠ 0 ∧ 0 ≤ j + n.log2 := by
  have hr := read64 (b := t) (by unfold bin c075 at *; omega) (by unfold c15 inf64 at *; omega)
  have hc : FloatKind.f64.format.read c1 = .number false bin (-52) := by decide
  have hm := Nat.mod_lt t (show 0 < bin by decide)
  have hdm := Nat.div_add_mod t bin
  obtain ⟨fb, fi, fl, ff⟩ := fmt64
  have hcase : (t / bin = 1022 ∧ 2251799813685248 ≤ t % bin) ∨ (t / bin = 1023 ∧ t % bin < 2251799813685248) := by
    have hd : t / bin = 1022 ∨ t / bin = 1023 := by
      have a1 : 1022 ≤ t / bin := by rw [Nat.le_div_iff_mul_le (by decide)]; unfold c075 bin at *; omega
      have a2 : t / bin < 1024 := by rw [Nat.div_lt_iff_lt_mul (by decide)]; unfold c15 bin at *; omega
      omega
    rcases hd with hd | hd
    · left; refine ⟨hd, ?_⟩; rw [hd] at hdm; unfold c075 bin at *; omega
    · right; refine ⟨hd, ?_⟩; rw [hd] at hdm; unfold c15 bin at *; omega
  have hplace : -1074 + ((t / bin - 1 : Nat) : Int) = -53 ∨ -1074 + ((t / bin - 1 : Nat) : Int) = -52 := by omega
  constructor
  · have hs : ∃ r, (FloatKind.f64.format.read t).sum (FloatKind.f64.format.read c1).opposite = some r ∧ Fits r (-2) := by
      rw [hr, hc]
      refine ⟨_, rfl, _, _, _, rfl, ?_⟩
      rcases hcase with ⟨hd, hl⟩ | ⟨hd, hl⟩
      · have e1 : -1074 + ((t / bin - 1 : Nat) : Int) = -53 := by omega
        rw [e1]
        have hv : (signed false (bin + t % bin) (-53 - min (-53) (-52) : Int).toNat + signed (!false) bin (-52 - min (-53) (-52) : Int).toNat).natAbs ≤ 2251799813685248 := by
          rw [show (-53 - min (-53) (-52) : Int).toNat = 0 by decide, show (-52 - min (-53) (-52) : Int).toNat = 1 by decide]
          unfold signed
          simp only [Bool.not_false, if_true, Nat.shiftLeft_eq]
          rw [if_neg (by decide)]
          unfold bin at *
          omega
        by_cases h0 : (signed false (bin + t % bin) (-53 - min (-53) (-52) : Int).toNat + signed (!false) bin (-52 - min (-53) (-52) : Int).toNat).natAbs = 0
        · exact .inl h0
        · right
          have hlog : (signed false (bin + t % bin) (-53 - min (-53) (-52) : Int).toNat + signed (!false) bin (-52 - min (-53) (-52) : Int).toNat).natAbs.log2 < 52 := by
            rw [Nat.log2_lt h0]
            exact Nat.lt_of_le_of_lt hv (by decide)
          omega
      · have e1 : -1074 + ((t / bin - 1 : Nat) : Int) = -52 := by omega
        rw [e1]
        have hv : (signed false (bin + t % bin) (-52 - min (-52) (-52) : Int).toNat + signed (!false) bin (-52 - min (-52) (-52) : Int).toNat).natAbs < 2251799813685248 := by
          rw [show (-52 - min (-52) (-52) : Int).toNat = 0 by decide]
          unfold signed
          simp only [Bool.not_false, if_true, Nat.shiftLeft_zero]
          rw [if_neg (by decide)]
          unfold bin at *
          omega
        by_cases h0 : (signed false (bin + t % bin) (-52 - min (-52) (-52) : Int).toNat + signed (!false) bin (-52 - min (-52) (-52) : Int).toNat).natAbs = 0
        · exact .inl h0
        · right
          have hlog : (signed false (bin + t % bin) (-52 - min (-52) (-52) : Int).toNat + signed (!false) bin (-52 - min (-52) (-52) : Int).toNat).natAbs.log2 < 51 := by
            rw [Nat.log2_lt h0]
            exact Nat.lt_of_lt_of_le hv (by decide)
          omega
    obtain ⟨r, hr2, hf⟩ := hs
    have := fop_fits (op := .sub) (k := .f64) (x := t) (y := c1) (by unfold floatBits Format.sub; dsimp only; rw [hr2]; rfl) hf (by have := lows .f64; omega) (by decide)
    exact this
  · have hs : ∃ mag pl, (FloatKind.f64.format.read t).sum (FloatKind.f64.format.read c1) = some (.number false mag pl) ∧ mag ≠ 0 ∧ 0 ≤ pl + mag.log2 ∧ pl + mag.log2 ≤ 3 := by
      rw [hr, hc]
      rcases hcase with ⟨hd, hl⟩ | ⟨hd, hl⟩
      · have e1 : -1074 + ((t / bin - 1 : Nat) : Int) = -53 := by omega
        rw [e1]
        have hv : signed false (bin + t % bin) (-53 - min (-53) (-52) : Int).toNat + signed false bin (-52 - min (-53) (-52) : Int).toNat = ((bin + t % bin + bin * 2 : Nat) : Int) := by
          rw [show (-53 - min (-53) (-52) : Int).toNat = 0 by decide, show (-52 - min (-53) (-52) : Int).toNat = 1 by decide]
          unfold signed
          simp only [Nat.shiftLeft_eq]
          rw [if_neg (by decide), if_neg (by decide)]
          omega
        have hlog : (bin + t % bin + bin * 2).log2 = 53 := log2_of (by show (9007199254740992 : Nat) ≤ _; unfold bin at *; omega) (by show _ < (18014398509481984 : Nat); unfold bin at *; omega)
        refine ⟨bin + t % bin + bin * 2, -53, ?_, by unfold bin; omega, by rw [hlog]; decide, by rw [hlog]; decide⟩
        unfold Datum.sum
        dsimp only
        rw [hv, if_neg (by unfold bin; omega), show decide (((bin + t % bin + bin * 2 : Nat) : Int) < 0) = false by rw [decide_eq_false_iff_not]; omega]
        rfl
      · have e1 : -1074 + ((t / bin - 1 : Nat) : Int) = -52 := by omega
        rw [e1]
        have hv : signed false (bin + t % bin) (-52 - min (-52) (-52) : Int).toNat + signed false bin (-52 - min (-52) (-52) : Int).toNat = ((bin + t % bin + bin : Nat) : Int) := by
          rw [show (-52 - min (-52) (-52) : Int).toNat = 0 by decide]
          unfold signed
          simp only [Nat.shiftLeft_zero]
          rw [if_neg (by decide), if_neg (by decide)]
          omega
        have hlog : (bin + t % bin + bin).log2 = 53 := log2_of (by show (9007199254740992 : Nat) ≤ _; unfold bin at *; omega) (by show _ < (18014398509481984 : Nat); unfold bin at *; omega)
        refine ⟨bin + t % bin + bin, -52, ?_, by unfold bin; omega, by rw [hlog]; decide, by rw [hlog]; decide⟩
        unfold Datum.sum
        dsimp only
        rw [hv, if_neg (by unfold bin; omega), show decide (((bin + t % bin + bin : Nat) : Int) < 0) = false by rw [decide_eq_false_iff_not]; omega]
        rfl
    obtain ⟨mag, pl, hsum, hm0, hlo, hhi⟩ := hs
    obtain ⟨n, j, hn, hn0, hnl⟩ := nearest_low FloatKind.f64.format false mag pl hm0 (by have := lows .f64; omega) (by rw [ff, fl, fb, fi]; omega)
    refine ⟨n, j, ?_, hn0, by omega⟩
    have hfb : floatBits .add .f64 t c1 = some (FloatKind.f64.format.nearest false mag pl) := by
      unfold floatBits Format.add
      dsimp only
      rw [hsum]
      rfl
    rw [fop_some hfb, hn]
theorem logS_fits {t : Nat} (h1 : c075 ≤ t) (h2 : t < c15) : Fits (FloatKind.f64.format.read (logS t)) 0 := by
  obtain ⟨hx, n, j, hy, hn, hl⟩ := t_parts h1 h2
  exact quo_fits (F := -1) hx hy hn (L := 0) (by omega) (by omega) (by have := lows .f64; omega) (by decide)
theorem logU_fits {t : Nat} (h1 : c075 ≤ t) (h2 : t < c15) : Fits (FloatKind.f64.format.read (logU t)) 2 :=
  mul_fits (F := 1) (logS_fits h1 h2) (logS_fits h1 h2) (by omega) (by have := lows .f64; omega) (by decide)
theorem logQ_fits {u : Nat} (hu : Fits (FloatKind.f64.format.read u) 2) : ∀ j, j ≤ 13 → Fits (FloatKind.f64.format.read (logQ u j)) (6 * (j : Int)) := by
  intro j
  induction j with
  | zero => intro _; exact ⟨false, 0, -1074, by show FloatKind.f64.format.read 0 = _; decide, .inl rfl⟩
  | succ j ih =>
    intro hj
    have hq := mul_fits (k := .f64) (F := 6 * (j : Int) + 3) hu (ih (by omega)) (by omega) (by have := lows .f64; omega) (by unfold topE; dsimp only; omega)
    have hd := fits_mono (div_fits (j := j) (by omega)) (show (1 : Int) ≤ 6 * (j : Int) + 3 + 1 by omega)
    have := add_fits hd hq (by have := lows .f64; omega) (by unfold topE; dsimp only; omega)
    exact fits_mono this (by omega)
theorem logR_fits {t : Nat} {e : Int} (h1 : c075 ≤ t) (h2 : t < c15) (h3 : -200 ≤ e) (h4 : e ≤ 200) : Fits (FloatKind.f64.format.read (logR t e)) 85 := by
  have hq := logQ_fits (logU_fits h1 h2) 13 (by omega)
  have h5 := mul_fits (k := .f64) (F := 79) (logS_fits h1 h2) hq (by omega) (by have := lows .f64; omega) (by decide)
  have hc2 : Fits (FloatKind.f64.format.read c2) 1 := fits_of (by decide)
  have h6 := mul_fits (k := .f64) (F := 82) hc2 h5 (by omega) (by have := lows .f64; omega) (by decide)
  have hln : Fits (FloatKind.f64.format.read cln2) 0 := fits_of (by decide)
  have h7 := mul_fits (k := .f64) (F := 9) (iof_fits h3 h4) hln (by omega) (by have := lows .f64; omega) (by decide)
  exact add_fits h6 (fits_mono h7 (by omega)) (by have := lows .f64; omega) (by decide)
theorem fits_nar {r : Nat} {E : Int} (h : Fits (FloatKind.f64.format.read r) E) (hE : E < 126) : Nar r ∧ nanF .f32 (nar r) = false := by
  have h2 := fits_enc .f32 (fits_mono h (show E ≤ 126 by omega)) (by decide) (by decide)
  obtain ⟨s, m, p, he, _⟩ := h
  rw [he] at h2
  obtain ⟨h3, h4⟩ := fits_nan h2
  have h5 : floatToFloatBits .f64 r .f32 = some (FloatKind.f32.format.write (.number s m p)) := by
    unfold floatToFloatBits
    rw [if_neg (by decide), show FloatKind.f64.decode r = .number s m p from he]
    dsimp only
    rw [if_neg (by show ¬ (FloatKind.f32.format.read (FloatKind.f32.format.write (.number s m p))).isInfinity = true; rw [h4]; decide)]
    rfl
  refine ⟨.inr ⟨_, h5⟩, ?_⟩
  unfold nar
  rw [h5]
  exact h3
/-- a float32 that is finite and greater than nought -/
def Pos (x : Nat) : Prop := ∃ m p, FloatKind.f32.format.read x = .number false m p ∧ m ≠ 0
theorem pos_range {x : Nat} (h : Pos x) : 870 * bin ≤ wid x ∧ wid x < 1152 * bin ∧ floatToFloatBits .f32 x .f64 = some (wid x) := by
  obtain ⟨m, p, hr, hm⟩ := h
  obtain ⟨fb, fi, fl, ff⟩ := fmt64
  have hlim : -149 ≤ p + m.log2 ∧ p + m.log2 ≤ 127 ∧ m.log2 ≤ 23 := by
    obtain ⟨gb, gi, gl, gf⟩ := fmt32
    have hf := read_cases .f32 x
    rw [hr] at hf
    rcases hf with hf | ⟨s, hf⟩ | ⟨s, m', p', he, hf⟩
    · cases hf
    · cases hf
    · cases he
      have hu := hf.resolve_left hm
      refine ⟨?_, hu, ?_⟩
      · unfold Format.read at hr
        rw [gb, gi, gl] at hr
        dsimp only at hr
        split at hr
        · injection hr with _ h2 h3
          rw [← h3]
          omega
        · split at hr
          · injection hr with _ h2 h3
            rw [← h3]
            omega
          · split at hr <;> cases hr
      · unfold Format.read at hr
        rw [gb, gi, gl] at hr
        dsimp only at hr
        split at hr
        · rename_i h1
          injection hr with _ h2 h3
          have : m.log2 < 23 := by rw [Nat.log2_lt hm, ← h2]; exact h1
          omega
        · split at hr
          · injection hr with _ h2 h3
            have hlt : m < 2 ^ 24 := by
              rw [← h2]
              have := Nat.mod_lt (x % FloatKind.f32.format.signWeight) (show 0 < 8388608 by omega)
              show _ < 16777216
              omega
            have : m.log2 < 24 := by rw [Nat.log2_lt hm]; exact hlt
            omega
          · split at hr <;> cases hr
  obtain ⟨l1, l2, l3⟩ := hlim
  have hwid : ∃ r, floatToFloatBits .f32 x .f64 = some r ∧ r = FloatKind.f64.format.nearest false m p := by
    have hn : nanF .f32 x = false := by unfold nanF; rw [hr]; rfl
    have h1 := (wid_num hn).1
    refine ⟨wid x, h1, ?_⟩
    unfold floatToFloatBits at h1
    rw [if_neg (by decide), show FloatKind.f32.decode x = .number false m p from hr] at h1
    dsimp only at h1
    split at h1
    · cases h1
    · exact (Option.some.inj h1).symm
  obtain ⟨r, hr1, hr2⟩ := hwid
  have hw : wid x = r := by unfold wid; rw [hr1]; rfl
  rw [hw]
  refine ⟨?_, ?_, hr1⟩
  all_goals
    rw [hr2]
    unfold Format.nearest
    rw [if_neg hm, ff, fl, fb, fi]
    dsimp only
    have hlast : max (p + (m.log2 : Int) - ((52 : Nat) : Int)) (-1074) = p + m.log2 - 52 := by omega
    rw [hlast]
    obtain ⟨sh, hsh⟩ : ∃ sh, sh = (p - (p + (m.log2 : Int) - 52)).toNat := ⟨_, rfl⟩
    rw [← hsh, show (p + (m.log2 : Int) - 52 - p).toNat = 0 by omega]
    have hshv : sh = 52 - m.log2 := by omega
    have hcut : Toward.even.cut false (m <<< sh) 0 = m <<< sh := by
      unfold Toward.cut
      simp
      omega
    rw [hcut, Nat.shiftLeft_eq]
    have k1 : bin ≤ m * 2 ^ sh := by
      have h1 : 2 ^ m.log2 * 2 ^ sh ≤ m * 2 ^ sh := Nat.mul_le_mul_right _ (pow_le hm)
      rw [← Nat.pow_add, show m.log2 + sh = 52 by omega] at h1
      exact h1
    have k2 : m * 2 ^ sh < 2 * bin := by
      have h1 : m * 2 ^ sh < 2 ^ (m.log2 + 1) * 2 ^ sh := Nat.mul_lt_mul_of_pos_right lt_pow (Nat.two_pow_pos _)
      rw [← Nat.pow_add, show m.log2 + 1 + sh = 53 by omega] at h1
      exact h1
    have k3 : 873 ≤ (p + (m.log2 : Int) - 52 - -1074).toNat ∧ (p + (m.log2 : Int) - 52 - -1074).toNat ≤ 1149 := by omega
    obtain ⟨k3, k4⟩ := k3
    obtain ⟨y, hy⟩ : ∃ y, y = (p + (m.log2 : Int) - 52 - -1074).toNat := ⟨_, rfl⟩
    rw [← hy] at k3 k4 ⊢
    obtain ⟨z, hz⟩ : ∃ z, z = m * 2 ^ sh := ⟨_, rfl⟩
    rw [← hz] at k1 k2 ⊢
    rw [show ∀ z, FloatKind.f64.format.word false z = z from fun z => by simp [Format.word], Nat.min_eq_left (by unfold bin at *; omega)]
    unfold bin at *
    omega
end Go.Proofs.Ytbojlgbkkdnegaa

-- The logarithm's walks, both ways.
namespace Go.Proofs.Ytbojlgbkkdnegaa
open Go.RowKit
/-- how many halves the number is from the middle -/
def logE (b : Nat) : Int := ((b : Int) - (c075 : Int)) / (bin : Int)
/-- the number in the middle -/
def logT (b : Nat) : Nat := ((c075 : Int) + ((b : Int) - (c075 : Int)) % (bin : Int)).toNat
def logW (b : Nat) : Nat := logR (logT b) (logE b)
theorem log_mid {b t : Nat} {e : Int} (h : (t : Int) + e * (bin : Int) = b) (h1 : c075 ≤ t) (h2 : t < c15) : logT b = t ∧ logE b = e := by
  have h3 : (b : Int) - (c075 : Int) = ((t : Int) - (c075 : Int)) + (bin : Int) * e := by rw [Int.mul_comm]; omega
  have hb : (0 : Int) ≤ (t : Int) - (c075 : Int) ∧ (t : Int) - (c075 : Int) < (bin : Int) := by unfold c075 c15 bin at *; omega
  unfold logT logE
  rw [h3, Int.add_mul_emod_self_left, Int.add_mul_ediv_left _ _ (by decide), Int.emod_eq_of_lt hb.1 hb.2, Int.ediv_eq_zero_of_lt hb.1 hb.2]
  omega
def bitsOf : Value → Nat | .float _ n => n | _ => 0
theorem lit_c2 : c2 = 4611686018427387904 := rfl
set_option maxHeartbeats 4000000 in
set_option maxRecDepth 100000 in
theorem naturalLog_any (b : Nat) (w : World) (hb : 870 * bin ≤ b ∧ b < 1152 * bin) :
    Calls Try.prog 51 #[.float .f64 b] w fun e w' => e = .returned (.float .f64 (logW b)) ∧ ∃ m, w' = w.drewN m := by
  have HB := Lib.hid hb; clear hb
  go_enter Try.func51, Try.ntmps51
  go_wp2
  go_loop [0, 3] (fun x e => ∃ (j y : Nat), x = .float .f64 y ∧ e = .float .f64 (iof (j : Int)) ∧ Hid (y + j * bin = b ∧ (j = 0 ∨ c075 ≤ y))) (fun x _ => bitsOf x)
  case atStart => exact ⟨0, b, rfl, by rw [show ((0 : Nat) : Int) = 0 from rfl, iof_zero], Lib.hid ⟨by omega, .inl rfl⟩⟩
  case round =>
    obtain ⟨j, y, rfl, rfl, HY⟩ := hrel
    by_cases hge : c15 ≤ y
    · have hy2 : 2 * bin ≤ y ∧ y < inf64 := by have h1 := HY.out; have h2 := HB.out; unfold bin c15 inf64 at *; omega
      have hj : j < 200 := by have h1 := HY.out; have h2 := HB.out; unfold bin c15 at *; omega
      have hq : ∀ t w, (binOp .quo t (.float .f64 y) (.float .f64 4611686018427387904)).run Try.prog w = .ok (.float .f64 (y - bin)) w := fun t w => run_float_arith w .quo t .f64 _ _ _ (half_word hy2.1 hy2.2)
      have ha : ∀ t w, (binOp .add t (.float .f64 (iof (j : Int))) (.float .f64 4607182418800017408)).run Try.prog w = .ok (.float .f64 (iof ((j : Int) + 1))) w := fun t w => run_float_arith w .add t .f64 _ _ _ (iof_up hj)
      have HY2 : Hid ((y - bin) + (j + 1) * bin = b ∧ (j + 1 = 0 ∨ c075 ≤ y - bin)) := Lib.hid (by have h1 := HY.out; unfold bin c15 c075 at *; omega)
      have HM : Hid (y - bin < y) := Lib.hid (by unfold bin at *; omega)
      have HO : Hid (FloatKind.f64.format.order y 4609434218613702656 = some .gt ∨ FloatKind.f64.format.order y 4609434218613702656 = some .eq) := Lib.hid (by
        by_cases he : y = c15
        · right; rw [he]; exact order_eq (by decide) (by decide)
        · left; exact (order_lt (a := c15) (c := y) (by decide) (by omega) hy2.2).2)
      obtain ⟨z, hz⟩ : ∃ z, z = y - bin := ⟨_, rfl⟩
      rw [← hz] at hq HY2 HM
      clear hge hy2 hz
      rcases HO.out with ho | ho
      all_goals
        go_wp2
        go_round
        case rel => exact ⟨j + 1, z, rfl, by rw [show ((j + 1 : Nat) : Int) = (j : Int) + 1 from by omega], HY2⟩
        case measure => exact HM.out
    · have hy1 : bin ≤ y ∧ y < inf64 := by have h1 := HY.out; have h2 := HB.out; unfold bin c15 c075 inf64 at *; omega
      have ho : FloatKind.f64.format.order y 4609434218613702656 = some .lt := (order_lt (a := y) (c := c15) hy1.1 (by omega) (by decide)).1
      have HG := Lib.hid hge
      clear hge hy1
      go_wp2
      go_loop [0, 3] (fun x e => ∃ (l z : Nat) (ev : Int), x = .float .f64 z ∧ e = .float .f64 (iof ev) ∧ Hid (z = y + l * bin ∧ (j = 0 ∨ l = 0) ∧ z < c15 ∧ ev = (j : Int) - (l : Int))) (fun x _ => c075 - bitsOf x)
      case atStart => exact ⟨0, y, (j : Int), rfl, rfl, Lib.hid ⟨by omega, .inr rfl, by have := HG.out; omega, by omega⟩⟩
      case round =>
        obtain ⟨l, z, ev, rfl, rfl, HZ⟩ := hrel
        by_cases hlt : z < c075
        · have hj0 : j = 0 := by
            have h1 := HZ.out
            have h2 := HY.out
            rcases h1.2.1 with h3 | h3
            · exact h3
            · rw [h3] at h1
              rcases h2.2 with h4 | h4
              · exact h4
              · omega
          have HJ := Lib.hid hj0
          clear hj0
          have hl : l < 200 := by have h1 := HZ.out; have h2 := HY.out; have h3 := HB.out; have h4 := HJ.out; unfold bin c075 at *; omega
          have hz1 : bin ≤ z ∧ z + bin < inf64 := by have h1 := HZ.out; have h2 := HY.out; have h3 := HB.out; unfold bin c075 inf64 at *; omega
          have hq : ∀ t w, (binOp .mul t (.float .f64 z) (.float .f64 4611686018427387904)).run Try.prog w = .ok (.float .f64 (z + bin)) w := fun t w => run_float_arith w .mul t .f64 _ _ _ (dbl_word hz1.1 hz1.2)
          have hsub := iof_down hl
          rw [show -(l : Int) = ev from by have h1 := HZ.out; have h4 := HJ.out; omega] at hsub
          obtain ⟨e2, he2⟩ : ∃ e2, e2 = ev - 1 := ⟨_, rfl⟩
          rw [← he2] at hsub
          have ha : ∀ t w, (binOp .sub t (.float .f64 (iof ev)) (.float .f64 4607182418800017408)).run Try.prog w = .ok (.float .f64 (iof e2)) w := fun t w => run_float_arith w .sub t .f64 _ _ _ hsub
          have HZ2 : Hid (z + bin = y + (l + 1) * bin ∧ (j = 0 ∨ l + 1 = 0) ∧ z + bin < c15 ∧ e2 = (j : Int) - ((l + 1 : Nat) : Int)) := Lib.hid (by have h1 := HZ.out; refine ⟨?_, .inl HJ.out, ?_, ?_⟩ <;> (unfold bin c15 c075 at *; omega))
          have HM : Hid (c075 - (z + bin) < c075 - z) := Lib.hid (by unfold bin c075 at *; omega)
          have ho : FloatKind.f64.format.order z 4604930618986332160 = some .lt := (order_lt (a := z) (c := c075) hz1.1 hlt (by decide)).1
          obtain ⟨v, hv⟩ : ∃ v, v = z + bin := ⟨_, rfl⟩
          rw [← hv] at hq HZ2 HM
          clear hlt hl hz1 hsub hv he2
          go_wp2
          go_round
          case rel => exact ⟨l + 1, v, e2, rfl, rfl, HZ2⟩
          case measure => exact HM.out
        · have hz2 : z < inf64 := by have h1 := HZ.out; unfold c15 inf64 at *; omega
          have HO : Hid (FloatKind.f64.format.order z 4604930618986332160 = some .gt ∨ FloatKind.f64.format.order z 4604930618986332160 = some .eq) := Lib.hid (by
            by_cases he : z = c075
            · right; rw [he]; exact order_eq (by decide) (by decide)
            · left; exact (order_lt (a := c075) (c := z) (by decide) (by omega) hz2).2)
          have HT := Lib.hid (log_mid (b := b) (t := z) (e := ev) (by have h1 := HZ.out; rw [h1.2.2.2]; have h2 := HY.out; have h3 : ((j * bin : Nat) : Int) = (j : Int) * (bin : Int) := Int.natCast_mul _ _; have h4 : ((l * bin : Nat) : Int) = (l : Int) * (bin : Int) := Int.natCast_mul _ _; rw [Int.sub_mul, ← h3, ← h4]; omega) (by omega) HZ.out.2.2.1)
          have HE : Hid (-200 ≤ ev ∧ ev ≤ 200) := Lib.hid (by have h1 := HZ.out; have h2 := HY.out; have h3 := HB.out; have hzz : c075 ≤ z := (by omega); unfold bin c15 c075 at *; omega)
          have HR : Hid (c075 ≤ z ∧ z < c15) := Lib.hid ⟨by omega, HZ.out.2.2.1⟩
          clear hlt hz2
          have d25 : iof (25 - 2 * ((0 : Nat) : Int)) = 4627730092099895296 := iof_25
          rcases HO.out with ho | ho
          all_goals
            go_wp2_with (first
              | (refine wpList_fop rfl .sub 35 (.tmp 20) _ 35 rfl arith_sub .f64 _ _ rfl rfl ?_; intro r1 m1 h1)
              | (refine wpList_fop rfl .add 35 (.tmp 22) _ 35 rfl arith_add .f64 _ _ rfl rfl ?_; intro r2 m2 h2)
              | (refine wpList_fop rfl .quo 35 (.tmp 21) (.tmp 23) 35 rfl arith_quo .f64 _ _ rfl rfl ?_; intro r3 m3 h3)
              | (refine wpList_fop rfl .mul 35 (.tmp 25) (.tmp 26) 35 rfl arith_mul .f64 _ _ rfl rfl ?_; intro r4 m4 h4))
            have HS := Lib.hid (h3.trans (fop_sim arith_quo h1 h2))
            have HU := Lib.hid (h4.trans (fop_sim arith_mul HS.out HS.out))
            clear h1 h2 h3 h4
            go_loopg [6, 7] 13 (fun gk q k wr => ∃ (j v : Nat) (d : Int), gk + j = 13 ∧ k = .float .f64 (iof d) ∧ q = .float .f64 v ∧ Hid (d = 25 - 2 * (j : Int)) ∧ Hid (Sim .f64 v (logQ (logU z) j)) ∧ ∃ m, wr = w.drewN m)
            case atStart => exact ⟨0, 0, 25, rfl, by rw [iof_25], rfl, Lib.hid rfl, Lib.hid (.refl _ _), _, rfl⟩
            case round =>
              obtain ⟨j', v, d, hgj, rfl, rfl, HD, HV, m, rfl⟩ := hrel
              by_cases hlt : j' < 13
              · have hdd := div_down hlt
                rw [← HD.out] at hdd
                obtain ⟨d2, hd2⟩ : ∃ d2, d2 = 25 - 2 * ((j' : Int) + 1) := ⟨_, rfl⟩
                rw [← hd2] at hdd
                have hs : ∀ t w, (binOp .sub t (.float .f64 (iof d)) (.float .f64 4611686018427387904)).run Try.prog w = .ok (.float .f64 (iof d2)) w := fun t w => run_float_arith w .sub t .f64 _ _ _ hdd.1
                have hgo := hdd.2
                rw [Bool.or_eq_true, beq_iff_eq, beq_iff_eq] at hgo
                have HD2 : Hid (d2 = 25 - 2 * ((j' + 1 : Nat) : Int)) := Lib.hid (by rw [hd2]; omega)
                have HO3 := Lib.hid hgo
                clear hdd hgo hd2
                rcases HO3.out with ho3 | ho3
                all_goals
                  replace ho3 : FloatKind.f64.format.order (iof d) 4607182418800017408 = _ := ho3
                  go_wp2_with (first
                    | (refine wpList_fop rfl .quo 35 _ (.tmp 32) 35 rfl arith_quo .f64 _ _ rfl rfl ?_; intro r5 m5 h5)
                    | (refine wpList_fop rfl .mul 35 (.tmp 34) (.tmp 35) 35 rfl arith_mul .f64 _ _ rfl rfl ?_; intro r6 m6 h6)
                    | (refine wpList_fop rfl .add 35 (.tmp 33) (.tmp 36) 35 rfl arith_add .f64 _ _ rfl rfl ?_; intro r7 m7 h7))
                  have HV2 : Hid (Sim .f64 r7 (logQ (logU z) (j' + 1))) := Lib.hid (by
                    show Sim .f64 r7 (fop .add .f64 (fop .quo .f64 c1 (iof (25 - 2 * (j' : Int)))) (fop .mul .f64 (logU z) (logQ (logU z) j')))
                    rw [← HD.out]
                    exact h7.trans (fop_sim arith_add h5 (h6.trans (fop_sim arith_mul HU.out HV.out))))
                  clear h5 h6 h7
                  go_wp2
                  go_roundg (gk - 1)
                  case measure => omega
                  case rel => exact ⟨j' + 1, r7, d2, by omega, rfl, rfl, HD2, HV2, _, by first | rfl | exact World.drewN_drewN ..⟩
              · have hj13 : j' = 13 := by omega
                have hdi : d = 25 - 2 * 13 := by rw [HD.out, hj13]; rfl
                have ho3 : FloatKind.f64.format.order (iof d) 4607182418800017408 = some .lt := by rw [hdi]; exact div_end
                have HV13 : Hid (Sim .f64 v (logQ (logU z) 13)) := Lib.hid (by rw [← hj13]; exact HV.out)
                clear hj13 hdi
                go_wp2_with (first
                  | (refine wpList_fop rfl .mul 35 (.tmp 38) (.tmp 39) 35 rfl arith_mul .f64 _ _ rfl rfl ?_; intro r5 m5 h5)
                  | (refine wpList_fop rfl .mul 35 _ (.tmp 40) 35 rfl arith_mul .f64 _ _ rfl rfl ?_; intro r6 m6 h6)
                  | (refine wpList_fop rfl .mul 35 (.tmp 42) _ 35 rfl arith_mul .f64 _ _ rfl rfl ?_; intro r7 m7 h7)
                  | (refine wpList_fop rfl .add 35 (.tmp 41) (.tmp 43) 35 rfl arith_add .f64 _ _ rfl rfl ?_; intro r8 m8 h8))
                have HF : Hid (r8 = logW b) := Lib.hid (by
                  have hsim : Sim .f64 r8 (logR z ev) := h8.trans (fop_sim arith_add (h6.trans (fop_sim arith_mul (.refl _ _) (h5.trans (fop_sim arith_mul HS.out HV13.out)))) h7)
                  have he := hsim.eq (fits_num (logR_fits HR.out.1 HR.out.2 HE.out.1 HE.out.2))
                  rw [he]
                  unfold logW
                  rw [HT.out.1, HT.out.2])
                clear h5 h6 h7 h8
                go_wp2
                go_ret
                exact ⟨by rw [← HF.out]; rfl, _, by first | rfl | exact World.drewN_drewN ..⟩
end Go.Proofs.Ytbojlgbkkdnegaa

-- The logarithm, the reference's way; the logarithm of a float32 that is positive, both ways.
namespace Go.Proofs.Ytbojlgbkkdnegaa
open Ieee Go.RowKit
theorem order_pos_zero {b : Nat} (h1 : bin ≤ b) (h2 : b < inf64) : FloatKind.f64.format.order b 0 = some .gt := by
  have hr := read64 h1 h2
  have h0 : FloatKind.f64.format.read 0 = .number false 0 (-1074) := by decide
  unfold Format.order
  rw [hr, h0]
  unfold Datum.order
  dsimp only
  have hm : 0 < signed false (bin + b % bin) ((-1074 + ((b / bin - 1 : Nat) : Int)) - min (-1074 + ((b / bin - 1 : Nat) : Int)) (-1074)).toNat := by
    unfold signed
    rw [if_neg (by decide), Nat.shiftLeft_eq]
    have : 0 < (bin + b % bin) * 2 ^ ((-1074 + ((b / bin - 1 : Nat) : Int)) - min (-1074 + ((b / bin - 1 : Nat) : Int)) (-1074)).toNat := Nat.mul_pos (by unfold bin; omega) (Nat.two_pow_pos _)
    omega
  have hz : signed false 0 ((-1074 : Int) - min (-1074 + ((b / bin - 1 : Nat) : Int)) (-1074)).toNat = 0 := by
    unfold signed
    simp
  rw [hz, Int.compare_eq_gt.2 hm]
end Go.Proofs.Ytbojlgbkkdnegaa

-- Functions that the model stands in for: bits of a float64, square roots. Infinities and NaNs.
namespace Go.Proofs.Ytbojlgbkkdnegaa
open Ieee Go.RowKit
theorem run_frombits (n : Int) (w : World) : (callFunc 62 #[.int .u64 n]).run Try.prog w = .ok (.value (.float .f64 n.toNat)) w := by
  rw [run_callFunc_extern (e := Extern.MathFloatBits.float64frombits) Try.func62 (by kernel_rfl) (by kernel_rfl) (by kernel_rfl) (by kernel_rfl)]
  rfl
set_option maxRecDepth 100000 in
theorem nan_any (w : World) : Calls Try.prog 50 #[] w fun e w' => e = .returned (.float .f64 9221120237041090561) ∧ w = w' := by
  have hf := run_frombits 9221120237041090561
  go_enter Try.func50, Try.ntmps50
  go_wp2
  go_ret
  exact ⟨rfl, rfl⟩
set_option maxRecDepth 100000 in
theorem ninf_any (w : World) : Calls Try.prog 49 #[.int .i64 (-1)] w fun e w' => e = .returned (.float .f64 18442240474082181120) ∧ w = w' := by
  have hf := run_frombits 18442240474082181120
  go_enter Try.func49, Try.ntmps49
  go_wp2
  go_ret
  exact ⟨rfl, rfl⟩
/-- a square root; some NaN where there is none -/
def sqC (x : Nat) : Nat := (FloatKind.f64.format.sqrt x).getD (qnan .f64)
theorem sqC_nan {x : Nat} (h : nanF .f64 x = true) : nanF .f64 (sqC x) = true := by
  obtain ⟨s, t, hd⟩ := read_nan h
  unfold sqC Format.sqrt
  rw [show FloatKind.f64.format.read x = .nan s t from hd]
  exact qnan_nan .f64
theorem sqC_sim {x y : Nat} (h : Sim .f64 x y) : Sim .f64 (sqC x) (sqC y) := by
  rcases h with rfl | ⟨h1, h2⟩
  · exact .refl _ _
  · exact .inr ⟨sqC_nan h1, sqC_nan h2⟩
theorem run_sqrt (x : Nat) : (∀ w, (callFunc 65 #[.float .f64 x]).run Try.prog w = .ok (.value (.float .f64 (sqC x))) w) ∨ (∃ f : World → Nat, ∀ w, (callFunc 65 #[.float .f64 x]).run Try.prog w = .ok (.value (.float .f64 (f w))) w.drew ∧ Sim .f64 (f w) (sqC x)) := by
  have key : ∀ w, (callFunc 65 #[.float .f64 x]).run Try.prog w = ((Extern.MathSqrt.sqrt #[.float .f64 x]).run Try.prog w).andThen fun v w' => .ok (.value v) w' := fun w => run_callFunc_extern (e := Extern.MathSqrt.sqrt) Try.func65 (by kernel_rfl) (by kernel_rfl) (by kernel_rfl) (by kernel_rfl) _ _
  have hent : ∀ w, (Extern.MathSqrt.sqrt #[.float .f64 x]).run Try.prog w = (match FloatKind.f64.format.sqrt x with | some r => (pure (Value.float .f64 r) : Sem Value) | none => do pure (.float .f64 (← choose (.nanBits .f64 x x)))).run Try.prog w := fun _ => rfl
  cases h : FloatKind.f64.format.sqrt x with
  | some r =>
    left
    intro w
    rw [key, hent, h]
    show _ = Result.ok (Next.value (Value.float .f64 (sqC x))) w
    unfold sqC
    rw [h]
    rfl
  | none =>
    right
    refine ⟨fun w => (Question.nanBits .f64 x x).cut (w.tape w.drawn (.nanBits .f64 x x)), fun w => ⟨?_, .inr ⟨nan_bits64 x x _, ?_⟩⟩⟩
    · rw [key, hent, h]
      simp [Question.forced]
    · unfold sqC
      rw [h]
      exact qnan_nan .f64
set_option maxHeartbeats 400000 in
theorem mathSqrt_any (x c : Nat) (w : World) (h : Sim .f64 x c) : Calls Try.prog 56 #[.float .f64 x] w fun e w' => (∃ r, e = .returned (.float .f64 r) ∧ Sim .f64 r (sqC c)) ∧ ∃ m, w' = w.drewN m := by
  have HS := Lib.hid (sqC_sim h); clear h
  rcases run_sqrt x with hr | ⟨f, hf⟩
  · go_enter Try.func56, Try.ntmps56
    go_wp2
    go_ret
    exact ⟨⟨_, rfl, HS.out⟩, 0, rfl⟩
  · have hr := fun w => (hf w).1
    have H2 := Lib.hid (fun w => (hf w).2)
    clear hf
    go_enter Try.func56, Try.ntmps56
    go_wp2
    go_ret
    exact ⟨⟨_, rfl, (H2.out _).trans HS.out⟩, 1, rfl⟩
theorem rootFrom_sq (n : Nat) : ∀ (todo root : Nat), root * root ≤ n → Datum.rootFrom n todo root * Datum.rootFrom n todo root ≤ n := by
  intro todo
  induction todo with
  | zero => intro root h; exact h
  | succ t ih =>
    intro root h
    unfold Datum.rootFrom
    dsimp only
    split
    · rename_i h2; exact ih _ h2
    · exact ih _ h
theorem fits_root {d : Datum} {E : Int} (g : Nat) (h : Fits d E) {r : Datum} (hr : d.root g = some r) : Fits r (E / 2 + 2) := by
  obtain ⟨s, m, i, rfl, h⟩ := h
  unfold Datum.root at hr
  dsimp only at hr
  by_cases hm : m = 0
  · rw [if_pos hm] at hr
    injection hr with hr
    exact ⟨s, m, i, hr.symm, .inl hm⟩
  · rw [if_neg hm] at hr
    cases s
    · rw [if_neg (by decide)] at hr
      injection hr with hr
      obtain ⟨more, hmore⟩ : ∃ more, more = 2 * g - m.log2 + ((i - ((2 * g - m.log2 : Nat) : Int)) % 2).toNat := ⟨_, rfl⟩
      rw [← hmore] at hr
      obtain ⟨whole, hw⟩ : ∃ whole, whole = Datum.rootFrom (m <<< more) ((m <<< more).log2 / 2 + 1) 0 := ⟨_, rfl⟩
      have hsq := rootFrom_sq (m <<< more) ((m <<< more).log2 / 2 + 1) 0 (Nat.zero_le _)
      rw [← hw] at hr hsq
      refine ⟨_, _, _, hr.symm, ?_⟩
      have hs : ∀ b : Bool, b.toNat ≤ 1 := fun b => by cases b <;> simp
      have hb := hs (whole * whole != m <<< more)
      by_cases h0 : 2 * whole + (whole * whole != m <<< more).toNat = 0
      · exact .inl h0
      · right
        have h1 := h.resolve_left hm
        have hlog : (2 * whole + (whole * whole != m <<< more).toNat).log2 < (m.log2 + more) / 2 + 2 := by
          rw [Nat.log2_lt h0]
          have hwl : whole < 2 ^ ((m.log2 + more) / 2 + 1) := by
            apply Classical.byContradiction
            intro hn
            have hn2 : 2 ^ ((m.log2 + more) / 2 + 1) ≤ whole := by omega
            have h3 : 2 ^ ((m.log2 + more) / 2 + 1) * 2 ^ ((m.log2 + more) / 2 + 1) ≤ whole * whole := Nat.mul_le_mul hn2 hn2
            rw [← Nat.pow_add] at h3
            have h4 : m <<< more < 2 ^ (m.log2 + 1 + more) := by
              rw [Nat.shiftLeft_eq, Nat.pow_add]
              exact Nat.mul_lt_mul_of_pos_right lt_pow (Nat.two_pow_pos _)
            have h5 : 2 ^ (m.log2 + 1 + more) ≤ 2 ^ ((m.log2 + more) / 2 + 1 + ((m.log2 + more) / 2 + 1)) := Nat.pow_le_pow_right (by omega) (by omega)
            omega
          rw [Nat.pow_succ]
          omega
        omega
    · rw [if_pos rfl] at hr
      cases hr
/-- the square root of a float32 -/
def rootC (x : Nat) : Nat := nar (sqC (wid x))
theorem rootC_sim {x y : Nat} (h : Sim .f32 x y) : Sim .f32 (rootC x) (rootC y) := nar_sim (sqC_sim (wid_sim h))
theorem inf_wid {x : Nat} {s : Bool} (h : FloatKind.f32.format.read x = .infinity s) : FloatKind.f64.format.read (wid x) = .infinity s := by
  have : floatToFloatBits .f32 x .f64 = some (FloatKind.f64.encode (.infinity s)) := by
    unfold floatToFloatBits
    rw [if_neg (by decide), show FloatKind.f32.decode x = .infinity s from h]
  unfold wid
  rw [this]
  exact inf_read .f64 s
theorem fits_wid {x : Nat} {E : Int} (h : Fits (FloatKind.f32.format.read x) E) (hE : E ≤ 127) : Fits (FloatKind.f64.format.read (wid x)) 129 := by
  have hn := (fits_nan h).1
  have h1 := (wid_num (x := x) hn).1
  have h2 := fits_enc .f64 (fits_mono h (show E ≤ 128 by omega)) (by decide) (by decide)
  obtain ⟨s, m, p, he, _⟩ := h
  unfold floatToFloatBits at h1
  rw [if_neg (by decide), show FloatKind.f32.decode x = .number s m p from he] at h1
  rw [he] at h2
  dsimp only at h1
  split at h1
  · cases h1
  · rw [← Option.some.inj h1]
    exact h2
theorem inf_nar {r : Nat} {s : Bool} (h : FloatKind.f64.format.read r = .infinity s) : Nar r ∧ FloatKind.f32.format.read (nar r) = .infinity s := by
  have : floatToFloatBits .f64 r .f32 = some (FloatKind.f32.encode (.infinity s)) := by
    unfold floatToFloatBits
    rw [if_neg (by decide), show FloatKind.f64.decode r = .infinity s from h]
  refine ⟨.inr ⟨_, this⟩, ?_⟩
  unfold nar
  rw [this]
  exact inf_read .f32 s
theorem root_nar (x : Nat) : Nar (sqC (wid x)) := by
  rcases read_cases .f32 x with h | ⟨s, h⟩ | h
  · exact .inl (sqC_nan (wid_nan h))
  · have hw := inf_wid h
    cases s
    · have : sqC (wid x) = FloatKind.f64.format.write (.infinity false) := by unfold sqC Format.sqrt; rw [hw]; rfl
      exact (inf_nar (s := false) (by rw [this]; exact inf_read .f64 false)).1
    · left
      have : sqC (wid x) = qnan .f64 := by unfold sqC Format.sqrt; rw [hw]; rfl
      rw [this]
      exact qnan_nan .f64
  · have hw := fits_wid h (by decide)
    cases hr : (FloatKind.f64.format.read (wid x)).root (FloatKind.f64.format.fractionBits + 2) with
    | none =>
      left
      have : sqC (wid x) = qnan .f64 := by unfold sqC Format.sqrt; rw [hr]; rfl
      rw [this]
      exact qnan_nan .f64
    | some d =>
      have hd : Fits d 66 := fits_root _ hw hr
      have : sqC (wid x) = FloatKind.f64.format.write d := by unfold sqC Format.sqrt; rw [hr]; rfl
      rw [this]
      exact (fits_nar (fits_enc .f64 hd (by decide) (by decide)) (by decide)).1
end Go.Proofs.Ytbojlgbkkdnegaa

-- Square roots and logarithms of float32s, both ways.
namespace Go.Proofs.Ytbojlgbkkdnegaa
open Ieee Go.RowKit
theorem Try.und25 : Try.prog.underlying 25 = some (.float .f32) := by kernel_rfl
theorem Try.und35 : Try.prog.underlying 35 = some (.float .f64) := by kernel_rfl
set_option maxRecDepth 100000 in
theorem rootNumber_any (x c : Nat) (w : World) (h : Sim .f32 x c) : Calls Try.prog 38 #[.float .f32 x] w fun e w' => (∃ r, e = .returned (.float .f32 r) ∧ Sim .f32 r (rootC c)) ∧ ∃ m, w' = w.drewN m := by
  have HW := Lib.hid (fun W => run_wid (P := Try.prog) W 25 35 (by rw [Try.und25]; rfl) Try.und35 x)
  have HQ := Lib.hid (fun (y : Nat) (W : World) (hy : Sim .f64 y (wid x)) => mathSqrt_any y (wid c) W (hy.trans (wid_sim h)))
  have HN := Lib.hid (fun (y : Nat) (W : World) (hy : Sim .f64 y (sqC (wid c))) => run_nar (P := Try.prog) W 35 25 (by rw [Try.und35]; rfl) Try.und25 y ((root_nar c).sim hy))
  clear h
  go_enter Try.func38, Try.ntmps38
  go_wp2_with (refine wpList_conv rfl 25 35 (.tmp 3) rfl .f32 .f64 _ _ rfl (HW.out _) ?_; intro r1 m1 h1)
  refine (HQ.out _ _ h1).mono ?_
  rintro e w' ⟨⟨r, rfl, hr⟩, m, rfl⟩
  go_wp2_with (refine wpList_conv rfl 35 25 (.tmp 5) rfl .f64 .f32 _ _ rfl (HN.out _ _ hr) ?_; intro r2 m2 h2)
  go_ret
  exact ⟨⟨_, rfl, h2.trans (nar_sim hr)⟩, _, by first | rfl | (simp only [World.drewN_drewN]; rfl)⟩
theorem order_num (k : FloatKind) {x : Nat} {s : Bool} {m : Nat} {p : Int} (hr : k.format.read x = .number s m p) (h : k.format.order x 0 = some .gt) : s = false ∧ m ≠ 0 := by
  obtain ⟨q, h0⟩ : ∃ q, k.format.read 0 = .number false 0 q := by cases k <;> exact ⟨_, rfl⟩
  unfold Format.order at h
  rw [hr, h0] at h
  unfold Datum.order at h
  dsimp only at h
  injection h with h
  rw [Int.compare_eq_gt] at h
  have hz : signed false 0 (q - min p q).toNat = 0 := by unfold signed; simp
  rw [hz] at h
  unfold signed at h
  cases s
  · refine ⟨rfl, ?_⟩
    rintro rfl
    simp at h
  · rw [if_pos rfl] at h
    have := Int.natCast_nonneg (m <<< (p - min p q).toNat)
    omega
theorem pos_of {x : Nat} (hf : finB x = true) (h : FloatKind.f32.format.order x 0 = some .gt) : Pos x := by
  have hn := fin_num hf
  rcases read_cases .f32 x with h1 | ⟨s, h1⟩ | ⟨s, m, p, h1, _⟩
  · unfold nanF at hn; rw [h1] at hn; cases hn
  · exfalso
    have : floatBits .sub .f32 x x = none := by
      unfold floatBits
      show Option.map _ _ = none
      rw [h1]
      cases s <;> rfl
    rw [finB_none this] at hf
    cases hf
  · obtain ⟨rfl, hm⟩ := order_num .f32 h1 h
    exact ⟨m, p, h1, hm⟩
/-- the logarithm of a positive float32 -/
def logC (x : Nat) : Nat := nar (logW (wid x))
theorem logW_fits (b : Nat) (h : 870 * bin ≤ b ∧ b < 1152 * bin) : Fits (FloatKind.f64.format.read (logW b)) 85 := by
  unfold logW
  have hm : 0 ≤ ((b : Int) - (c075 : Int)) % (bin : Int) ∧ ((b : Int) - (c075 : Int)) % (bin : Int) < bin := ⟨Int.emod_nonneg _ (by decide), Int.emod_lt_of_pos _ (by decide)⟩
  have hd := Int.emod_add_mul_ediv ((b : Int) - (c075 : Int)) (bin : Int)
  refine logR_fits ?_ ?_ ?_ ?_
  · unfold logT; omega
  · unfold logT; unfold bin c075 c15 at *; omega
  · unfold logE; unfold bin c075 at *; omega
  · unfold logE; unfold bin c075 at *; omega
theorem logC_pos {x : Nat} (h : Pos x) : floatToFloatBits .f64 (logW (wid x)) .f32 = some (logC x) ∧ nanF .f32 (logC x) = false := by
  obtain ⟨h1, h2, _⟩ := pos_range h
  have hf := logW_fits _ ⟨h1, h2⟩
  obtain ⟨hn, h4⟩ := fits_nar hf (by decide)
  refine ⟨?_, h4⟩
  rcases hn with hn | ⟨r, hr⟩
  · rw [fits_num hf] at hn; cases hn
  · unfold logC nar
    rw [hr]; rfl
set_option maxHeartbeats 400000 in
set_option maxRecDepth 100000 in
theorem logNumber_any (x : Nat) (w : World) (hf : finB x = true) (ho : FloatKind.f32.format.order x 0 = some .gt) : Calls Try.prog 22 #[.float .f32 x] w fun e w' => e = .returned (.float .f32 (logC x)) ∧ ∃ m, w' = w.drewN m := by
  have hp := pos_of hf ho
  have hr := pos_range hp
  have hself : FloatKind.f32.format.order x x = some .eq := order_self (fin_num hf)
  have hw := fun (w : World) => run_convert_float_float (P := Try.prog) w 25 35 .f32 .f64 x _ (by rw [Try.und25]; rfl) Try.und35 hr.2.2
  have hn := fun (w : World) => run_convert_float_float (P := Try.prog) w 35 25 .f64 .f32 (logW (wid x)) _ (by rw [Try.und35]; rfl) Try.und25 (logC_pos hp).1
  have HL := Lib.hid (fun W => naturalLog_any (wid x) W ⟨hr.1, hr.2.1⟩)
  have c63 := fun W => isFinite_any x W
  rw [hf] at c63
  have HC := Lib.hid c63
  clear c63 hp hr hf
  go_enter Try.func22, Try.ntmps22
  go_wp2_with fail
  refine (HC.out _).mono ?_
  rintro e w' ⟨rfl, m, rfl⟩
  go_wp2_with fail
  refine (HL.out _).mono ?_
  rintro e w' ⟨rfl, m2, rfl⟩
  go_wp2
  go_ret
  exact ⟨rfl, _, by first | rfl | (simp only [World.drewN_drewN]; rfl)⟩
end Go.Proofs.Ytbojlgbkkdnegaa

-- Lists of ints that lie between bounds: the program's test.
namespace Go.Proofs.Ytbojlgbkkdnegaa
open Go.RowKit
/-- no number of a list lies outside -/
def rngI (lo hi : Int) (xs : List Int) : Bool := !xs.any fun x => !inB x lo hi
set_option maxHeartbeats 1000000 in
theorem withinFn_any (x lo hi : Int) (b b' : Nat) (W : World) (h0 : W.cell? ⟨b, 0, none⟩ = some (.int .i64 lo)) (h1 : W.cell? ⟨b', 0, none⟩ = some (.int .i64 hi)) :
    Calls Try.prog 69 #[.int .i64 x, .pointer (some ⟨b, 0, none⟩), .pointer (some ⟨b', 0, none⟩)] W fun e w' => e = .returned (.bool (!inB x lo hi)) ∧ Below W.heap.size W w' := by
  go_enter Try.func69, Try.ntmps69
  go_wp2_with fail
  refine (within_any x lo hi _).mono ?_
  rintro e w' ⟨rfl, rfl⟩
  go_wp2
  go_ret
  exact ⟨rfl, Below.refl _ _⟩
set_option maxHeartbeats 1000000 in
theorem areWithin_any (A : Option Addr) (n c : Nat) (xs : List Int) (lo hi : Int) (w : World) (hn : xs.length = n) (hm : n ≤ 140737488351232) (hr : Rd w w.heap.size A (xs.map (Value.int .i64))) :
    Calls Try.prog 60 #[.slice A n c, .int .i64 lo, .int .i64 hi] w fun e w' => e = .returned (.bool (rngI lo hi xs)) ∧ Below w.heap.size w w' := by
  have eg := enters_of (P := Try.prog) Try.func69 (by kernel_rfl) rfl
  have hb0 := bthen (below_new w (.cells #[.int .i64 lo] 2)) (below_new _ (.cells #[.int .i64 hi] 2))
  have C := containsFunc_i64 69 #[.pointer (some ⟨w.heap.size, 0, none⟩), .pointer (some ⟨w.heap.size + 1, 0, none⟩)] eg (fun x => !inB x lo hi) A n c xs ((w.alloc (.cells #[.int .i64 lo] 2)).alloc (.cells #[.int .i64 hi] 2)) hn hm (hr.next hb0)
    (fun W x _ hb => withinFn_any x lo hi _ _ W ((hb.cell (p := ⟨w.heap.size, 0, none⟩) (by simp; omega)).trans (by simp [go_sem])) ((hb.cell (p := ⟨w.heap.size + 1, 0, none⟩) (by simp)).trans (by simp [go_sem])))
  have HC := Lib.hid C
  have HB0 := Lib.hid hb0
  clear C hb0 hr hn eg
  have hmf : ∀ (fn : Fn) (first cap : Array Value) (w : World), (Instr.makeFunc fn first cap).run Try.prog w = .ok (.func fn first cap) w := fun _ _ _ _ => rfl
  go_enter Try.func60, Try.ntmps60
  go_wp2_with fail
  refine HC.out.mono ?_
  rintro e w' ⟨rfl, hb⟩
  have HB := Lib.hid (bthen HB0.out hb); clear hb
  go_wp2
  go_ret
  exact ⟨rfl, HB.out⟩
end Go.Proofs.Ytbojlgbkkdnegaa

-- Lists of masses, both ways to ask for them.
namespace Go.Proofs.Ytbojlgbkkdnegaa
open Go.RowKit
def posB (xs : List Int) : Bool := xs.any fun x => decide (0 < x)
/-- a list are masses -/
def massB (xs : List Int) : Bool := decide (1 ≤ xs.length ∧ xs.length ≤ 256) && (rngI 0 1000000 xs && posB xs)
theorem posB_snoc {xs : List Int} {k : Nat} (h : k < xs.length) : posB (xs.take (k + 1)) = (posB (xs.take k) || decide (0 < xs[k])) := by
  unfold posB
  rw [List.take_succ_eq_append_getElem h, List.any_append]
  simp
theorem rngI_bad {lo hi : Int} {xs : List Int} {k : Nat} (h : k < xs.length) (hb : inB xs[k] lo hi = false) : rngI lo hi xs = false := by
  unfold rngI
  rw [any_found h (by rw [hb]; rfl)]
  rfl
theorem rngI_mem {lo hi : Int} {xs : List Int} (h : rngI lo hi xs = true) : ∀ x ∈ xs, lo ≤ x ∧ x ≤ hi := by
  intro x hx
  unfold rngI at h
  have h2 : (xs.any fun x => !inB x lo hi) = false := by simpa using h
  rw [List.any_eq_false] at h2
  have := h2 x hx
  simpa [inB] using this
set_option maxHeartbeats 1000000 in
theorem max_any (A : Option Addr) (n c : Nat) (xs : List Int) (w : World) (hn : xs.length = n) (h0 : 0 < n) (hm : n ≤ 256) (hr : Rd w w.heap.size A (xs.map (Value.int .i64))) :
    Calls Try.prog 61 #[.slice A n c] w fun e w' => (∃ z, e = .returned (.int .i64 z) ∧ decide (0 < z) = posB xs) ∧ w = w' := by
  have Hn := Lib.hid hn; clear hn
  have Hr := Lib.hid hr; clear hr
  obtain ⟨ad, rfl, _, hc0⟩ := Hr.out.at_ (k := 0) (by rw [List.length_map, Hn.out]; exact h0)
  rw [List.getElem_map, show ad.add 0 = ad from rfl] at hc0
  have h0' : 0 < xs.length := by rw [Hn.out]; exact h0
  have HS0 := Lib.hid (posB_snoc h0')
  obtain ⟨x0, hx0⟩ : ∃ x0, x0 = xs[0] := ⟨_, rfl⟩
  rw [← hx0] at hc0 HS0
  clear hx0
  go_enter Try.func61, Try.ntmps61
  go_wp2
  go_loop [3, 4] (fun v i => ∃ (k : Nat) (z : Int), 1 ≤ k ∧ k ≤ n ∧ i = .int .i64 k ∧ v = .int .i64 z ∧ Hid (decide (0 < z) = posB (xs.take k))) (fun _ i => n - (intOf i).toNat)
  case atStart => exact ⟨1, x0, Nat.le_refl _, h0, rfl, rfl, Lib.hid (by rw [HS0.out]; simp [posB])⟩
  case round =>
    obtain ⟨k, z, hk1, hk, rfl, rfl, HZ⟩ := hrel
    by_cases hlt : k < n
    · have hka : k < xs.length := by rw [Hn.out]; exact hlt
      obtain ⟨ad', had', _, hck⟩ := Hr.out.at_ (k := k) (by rw [List.length_map]; exact hka)
      obtain rfl : ad' = ad := (Option.some.inj had').symm
      rw [List.getElem_map] at hck
      have HS := Lib.hid (posB_snoc hka)
      obtain ⟨x, hx⟩ : ∃ x, x = xs[k] := ⟨_, rfl⟩
      rw [← hx] at hck HS
      clear hx had'
      go_wp2
      go_round
      case rel => exact ⟨k + 1, (if z < x then x else z), by omega, by omega, by go_num, rfl, Lib.hid (by rw [HS.out, ← HZ.out]; split <;> simp <;> omega)⟩
      case measure => simp [intOf]; omega
    · obtain rfl : n = k := by omega
      have HT : Hid (decide (0 < z) = posB xs) := Lib.hid (by have h := HZ.out; rwa [List.take_of_length_le (by rw [Hn.out]; omega)] at h)
      go_wp2
      go_ret
      exact ⟨⟨z, rfl, HT.out⟩, rfl⟩
set_option maxHeartbeats 1000000 in
theorem areMasses_any (A : Option Addr) (n c : Nat) (xs : List Int) (w : World) (hn : xs.length = n) (hm : n ≤ 1048576) (hr : Rd w w.heap.size A (xs.map (Value.int .i64))) :
    Calls Try.prog 47 #[.slice A n c] w fun e w' => e = .returned (.bool (massB xs)) ∧ Below w.heap.size w w' := by
  by_cases h1 : 1 ≤ n
  · by_cases h2 : n ≤ 256
    · have hl : massB xs = (rngI 0 1000000 xs && posB xs) := by unfold massB; rw [show decide (1 ≤ xs.length ∧ xs.length ≤ 256) = true by rw [decide_eq_true_eq]; omega]; rfl
      have c89 := areWithin_any A n c xs 0 1000000 w hn (by omega) hr
      have Hr := Lib.hid hr
      have Hn := Lib.hid hn
      rw [hl]
      cases hg : rngI 0 1000000 xs
      · rw [hg] at c89
        have HC := Lib.hid c89
        clear c89 hr hn hl hg
        go_enter Try.func47, Try.ntmps47
        go_wp2_with fail
        refine HC.out.mono ?_
        rintro e w1 ⟨rfl, hb⟩
        have HB := Lib.hid hb; clear hb
        go_wp2
        go_ret
        exact ⟨rfl, HB.out⟩
      · rw [hg] at c89
        have HC := Lib.hid c89
        clear c89 hr hn hl hg
        go_enter Try.func47, Try.ntmps47
        go_wp2_with fail
        refine HC.out.mono ?_
        rintro e w1 ⟨rfl, hb⟩
        have HB := Lib.hid hb
        have HC2 := Lib.hid (max_any A n c xs w1 Hn.out (by omega) h2 (Hr.out.next hb))
        clear hb
        go_wp2_with fail
        refine HC2.out.mono ?_
        rintro e w2 ⟨⟨z, rfl, hz⟩, rfl⟩
        have HZ := Lib.hid hz
        clear hz
        go_wp2
        go_ret
        exact ⟨ret_bool (by rw [← HZ.out]; rfl), HB.out⟩
    · have hl : massB xs = false := by unfold massB; rw [show decide (1 ≤ xs.length ∧ xs.length ≤ 256) = false by rw [decide_eq_false_iff_not]; omega]; rfl
      rw [hl]
      clear hl hr hn
      go_enter Try.func47, Try.ntmps47
      go_wp2
      go_ret
      exact ⟨rfl, Below.refl _ _⟩
  · have hl : massB xs = false := by unfold massB; rw [show decide (1 ≤ xs.length ∧ xs.length ≤ 256) = false by rw [decide_eq_false_iff_not]; omega]; rfl
    rw [hl]
    clear hl hr hn
    go_enter Try.func47, Try.ntmps47
    go_wp2
    go_ret
    exact ⟨rfl, Below.refl _ _⟩
/-- the sum of masses, if they are such -/
def massS (xs : List Int) : Int := if decide (1 ≤ xs.length ∧ xs.length ≤ 256) && rngI 0 1000000 xs then xs.sum else 0
theorem sum_snoc {xs : List Int} {k : Nat} (h : k < xs.length) : (xs.take (k + 1)).sum = (xs.take k).sum + xs[k] := by
  rw [List.take_succ_eq_append_getElem h, List.sum_append]; simp
theorem ret_ib' {a a' : Int} {b b' : Bool} (h : a = a') (h' : b = b') : Ending.returned (.tuple #[.int .i64 a, .bool b]) = .returned (.tuple #[.int .i64 a', .bool b']) := by rw [h, h']
end Go.Proofs.Ytbojlgbkkdnegaa

-- Logarithms of lists of float32s, both ways.
namespace Go.Proofs.Ytbojlgbkkdnegaa
open Ieee Go.RowKit
/-- a list: not too long, all finite -/
def listB (xs : List Nat) : Bool := decide (xs.length ≤ 256) && finL xs
theorem listB_len {xs : List Nat} (h : listB xs = true) : xs.length ≤ 256 ∧ finL xs = true := by
  unfold listB at h
  rw [Bool.and_eq_true, decide_eq_true_eq] at h
  exact h
theorem finL_mem {xs : List Nat} (h : finL xs = true) : ∀ x ∈ xs, finB x = true := by
  intro x hx
  unfold finL at h
  have h2 : (xs.any fun x => !finB x) = false := by simpa using h
  rw [List.any_eq_false] at h2
  have := h2 x hx
  simpa using this
theorem order_some (k : FloatKind) {x y : Nat} (hx : nanF k x = false) (hy : nanF k y = false) : ∃ o, k.format.order x y = some o := by
  unfold nanF at hx hy
  unfold Format.order
  cases h1 : k.format.read x with
  | nan s t => rw [h1] at hx; cases hx
  | infinity s => cases h2 : k.format.read y with
    | nan s t => rw [h2] at hy; cases hy
    | infinity s => exact ⟨_, rfl⟩
    | number s m p => exact ⟨_, rfl⟩
  | number s m p => cases h2 : k.format.read y with
    | nan s t => rw [h2] at hy; cases hy
    | infinity s => exact ⟨_, rfl⟩
    | number s m p => exact ⟨_, rfl⟩
/-- greater than nought -/
def gtB (x : Nat) : Bool := FloatKind.f32.format.order x 0 == some .gt
theorem gtB_t {x : Nat} (h : gtB x = true) : FloatKind.f32.format.order x 0 = some .gt := by
  unfold gtB at h
  exact eq_of_beq h
theorem gtB_f {x : Nat} (hf : finB x = true) (h : gtB x = false) : FloatKind.f32.format.order x 0 = some .lt ∨ FloatKind.f32.format.order x 0 = some .eq := by
  obtain ⟨o, ho⟩ := order_some .f32 (fin_num hf) num_zero
  unfold gtB at h
  rw [ho] at h ⊢
  cases o
  · exact .inl rfl
  · exact .inr rfl
  · cases h
def logOk (xs : List Nat) : Bool := listB xs && !(xs.any fun x => !gtB x)
def logsR (xs : List Nat) : List Nat := if logOk xs = true then xs.map logC else []
/-- a list of floats of the call's own, and whether it is told -/
def GivesF (B : Nat) (ls : List Nat) (ok : Bool) (e : Ending) (w' : World) : Prop := ∃ A c, e = .returned (.tuple #[.slice A ls.length c, .bool ok]) ∧ w'.ownsRow B 25 1 (.slice A ls.length c) ls.length (ls.map (Value.float .f32))
set_option maxHeartbeats 1000000 in
theorem isList_any (A : Option Addr) (n c : Nat) (xs : List Nat) (w : World) (hn : xs.length = n) (hm : n ≤ 1048576) (hr : Rd w w.heap.size A (xs.map (Value.float .f32))) :
    Calls Try.prog 29 #[.slice A n c] w fun e w' => e = .returned (.bool (listB xs)) ∧ Below w.heap.size w w' := by
  by_cases h2 : n ≤ 256
  · have hl : listB xs = finL xs := by unfold listB; rw [show decide (xs.length ≤ 256) = true by rw [decide_eq_true_eq]; omega]; rfl
    have HC := Lib.hid (areFinite_any A n c xs w hn (by omega) hr)
    rw [hl]
    clear hl hr hn
    go_enter Try.func29, Try.ntmps29
    go_wp2_with fail
    refine HC.out.mono ?_
    rintro e w' ⟨rfl, hb⟩
    have HB := Lib.hid hb; clear hb
    go_wp2
    go_ret
    exact ⟨rfl, HB.out⟩
  · have hl : listB xs = false := by unfold listB; rw [show decide (xs.length ≤ 256) = false by rw [decide_eq_false_iff_not]; omega]; rfl
    rw [hl]
    clear hl hr hn
    go_enter Try.func29, Try.ntmps29
    go_wp2
    go_ret
    exact ⟨rfl, Below.refl _ _⟩
theorem logsR_len (xs : List Nat) (h : xs.length ≤ 1048576) : (logsR xs).length ≤ 1048576 := by
  unfold logsR
  split
  · rw [List.length_map]; exact h
  · simp
set_option maxHeartbeats 2000000 in
set_option maxRecDepth 100000 in
theorem logsOf_any (A : Option Addr) (n c : Nat) (xs : List Nat) (w : World) (hn : xs.length = n) (hm : n ≤ 1048576) (hr : Rd w w.heap.size A (xs.map (Value.float .f32))) :
    Calls Try.prog 18 #[.slice A n c] w fun e w' => GivesF w.heap.size (logsR xs) (logOk xs) e w' ∧ Below w.heap.size w w' := by
  have cl := isList_any A n c xs w hn hm hr
  cases hl : listB xs
  · rw [hl] at cl
    have HC := Lib.hid cl
    have HR : Hid (logsR xs = [] ∧ logOk xs = false) := Lib.hid (by unfold logsR logOk; rw [hl]; exact ⟨rfl, rfl⟩)
    clear cl hl hr hn
    go_enter Try.func18, Try.ntmps18
    go_wp2_with fail
    refine HC.out.mono ?_
    rintro e w1 ⟨rfl, hb⟩
    have HB := Lib.hid hb; clear hb
    go_wp2
    go_ret2
    rw [HR.out.1, HR.out.2]
    exact ⟨⟨none, 0, rfl, ⟨rfl, .inl ⟨rfl, rfl⟩⟩⟩, HB.out⟩
  · obtain ⟨hn256, hfin⟩ := listB_len hl
    rw [hn] at hn256
    rw [hl] at cl
    have HC := Lib.hid cl
    obtain ⟨i0, hi, hz0, hz1, hz2⟩ := info_parts Try.info25
    have HR : Hid (logOk xs = !(xs.any fun x => !gtB x)) := Lib.hid (by unfold logOk; rw [hl]; rfl)
    have HM := Lib.hid (finL_mem hfin)
    have Hr := Lib.hid hr
    have Hn := Lib.hid hn
    clear cl hl hr hn hfin
    go_enter Try.func18, Try.ntmps18
    go_wp2_with fail
    refine HC.out.mono ?_
    rintro e w1 ⟨rfl, hb⟩
    have hzw := hb.size
    have R1 := Lib.hid (Hr.out.next hb)
    have hN1 := own_nilF w1 25 w1.heap.size (Nat.le_refl _)
    have HN1 := Lib.hid (own_base hN1 hzw)
    have HB0 := Lib.hid (bthen hb (below_new w1 (.cells #[] 25)))
    clear hb hN1
    go_wp2_with fail
    go_loopw [4, 13] (fun v i wr => ∃ (k : Nat) (ls : List Nat), k ≤ n ∧ i = .int .i64 k ∧ ls.length = k ∧ Hid (ls = (xs.take k).map logC) ∧ Hid ((xs.take k).any (fun x => !gtB x) = false) ∧ wr.ownsRow w.heap.size 25 1 v ls.length (ls.map (Value.float .f32)) ∧ Below w.heap.size w wr) (fun _ i _ => n - (intOf i).toNat)
    case atStart => exact ⟨0, [], Nat.zero_le _, rfl, rfl, Lib.hid rfl, Lib.hid rfl, HN1.out, HB0.out⟩
    case round =>
      obtain ⟨k, ls, hk, rfl, hll, HL, HA, hv, hb⟩ := hrel
      have HV := Lib.hid hv
      have HB := Lib.hid hb
      have HLL := Lib.hid hll
      have hl2 : ls.length ≤ 256 := by omega
      have hwz := HB.out.size
      clear hv hb hll
      obtain ⟨Av, cv, rfl, hrv⟩ := shapeOf HV.out
      by_cases hlt : k < n
      · have hka : k < xs.length := by rw [Hn.out]; exact hlt
        obtain ⟨ad, rfl, had, hck⟩ := ((Hr.out.below HB.out).more hwz).at_ (k := k) (by rw [List.length_map]; exact hka)
        rw [List.getElem_map] at hck
        have hfx := HM.out xs[k] (List.getElem_mem hka)
        have HS1 : Hid ((xs.take (k + 1)).map logC = (xs.take k).map logC ++ [logC xs[k]]) := Lib.hid (by rw [List.take_succ_eq_append_getElem hka, List.map_append]; rfl)
        have hstep := any_step (p := fun x => !gtB x) hka HA.out
        have hbad := any_found (p := fun x => !gtB x) hka
        obtain ⟨x, hx⟩ : ∃ x, x = xs[k] := ⟨_, rfl⟩
        rw [← hx] at hck HS1 hfx hstep hbad
        clear hx hrv
        cases hg : gtB x
        · have HR2 : Hid (logsR xs = [] ∧ logOk xs = false) := Lib.hid (by
            have h := hbad (by rw [hg]; rfl)
            have h2 : logOk xs = false := by rw [HR.out, h]; rfl
            unfold logsR
            rw [h2]
            exact ⟨rfl, rfl⟩)
          have HO := Lib.hid (gtB_f hfx hg)
          clear hbad hstep hfx hg
          rcases HO.out with ho | ho
          all_goals
            go_wp2
            go_ret2
            rw [HR2.out.1, HR2.out.2]
            exact ⟨⟨none, 0, rfl, ⟨rfl, .inl ⟨rfl, rfl⟩⟩⟩, HB.out⟩
        · have HA2 := Lib.hid (hstep (by rw [hg]; rfl))
          have ho := gtB_t hg
          have HLg := Lib.hid (fun W => logNumber_any x W hfx ho)
          clear hbad hstep hfx hg
          go_wp2_with fail
          refine (HLg.out _).mono ?_
          rintro e w' ⟨rfl, m, rfl⟩
          have HVq := Lib.hid (own_drw HV.out ⟨m, rfl⟩)
          have HBq := Lib.hid (below_drw HB.out ⟨m, rfl⟩)
          obtain ⟨wq, hwq⟩ : ∃ y, y = wr.drewN m := ⟨_, rfl⟩
          rw [← hwq] at HVq HBq ⊢
          have hzq := HBq.out.size
          clear hwq hck
          go_wp2_with (at_builtin; go_must (refine wpList_append_own_at _ rfl (.tmp 20) (.tmp 23) 26 rfl w.heap.size 25 i0 (.float .f32 0) 1 4 Try.underlying26 hi hz0 hz1 hz2 rfl (by decide) _ _ _ rfl (HVq.out.alloc _) ⟨wq.heap.size, 0, none⟩ 1 1 [.float .f32 (logC x)] rfl rfl (newOne wq _ 25) (oneF _ _) ?_ ?_ ?_ ?_))
          · unfold maxLen; omega
          · omega
          · simp; omega
          intro v' w7 hown' hgrow _ hat'
          have HV7 := Lib.hid (own_appF hown')
          have HB7 := Lib.hid ((HBq.out.alloc hzq (.cells #[.float .f32 (logC x)] 25)).grown hgrow (by simp; omega) (fun q hq => (HVq.out.lt q hq).1))
          clear hown' hgrow hat'
          go_wp2
          go_roundw
          case rel => exact ⟨k + 1, ls ++ [logC x], by omega, by go_num, by rw [List.length_append, HLL.out]; rfl, Lib.hid (by rw [HS1.out, HL.out]), HA2, HV7.out, HB7.out⟩
          case measure => simp [intOf]; omega
      · obtain rfl : n = k := by omega
        have hT : xs.take n = xs := List.take_of_length_le (by rw [Hn.out]; omega)
        have HR2 : Hid (logsR xs = ls ∧ logOk xs = true) := Lib.hid (by
          have h := HA.out
          have h1 := HL.out
          rw [hT] at h h1
          have h2 : logOk xs = true := by rw [HR.out, h]; rfl
          unfold logsR
          rw [h2, if_pos rfl]
          exact ⟨h1.symm, rfl⟩)
        clear hT hrv
        go_wp2
        go_ret2
        rw [HR2.out.1, HR2.out.2]
        exact ⟨⟨_, _, rfl, HV.out⟩, HB.out⟩
end Go.Proofs.Ytbojlgbkkdnegaa
