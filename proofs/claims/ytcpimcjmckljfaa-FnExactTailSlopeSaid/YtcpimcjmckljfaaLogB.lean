/- The logarithm of a positive number: what the loops leave, and that the result fits a float32. Plain. -/
import Derived.Test.YtcpimcjmckljfaaLog
namespace Go.Proofs.Ytcpimcjmckljfaa
open Ieee
def fitsB (d : Datum) (E : Int) : Bool := match d with | .number _ m p => decide (m = 0 ∨ p + m.log2 ≤ E) | _ => false
theorem fits_of {d : Datum} {E : Int} (h : fitsB d E = true) : Fits d E := by
  unfold fitsB at h
  split at h
  · rename_i s m p
    exact ⟨s, m, p, rfl, of_decide_eq_true h⟩
  · cases h
/-- a small integer as a float64 -/
def iof (z : Int) : Nat := floatOfInt .f64 z
theorem all_range {p : Nat → Bool} {n : Nat} (h : (List.range n).all p = true) {j : Nat} (hj : j < n) : p j = true := List.all_eq_true.1 h j (List.mem_range.2 hj)
theorem iof_up {j : Nat} (h : j < 200) : floatBits .add .f64 (iof (j : Int)) c1 = some (iof ((j : Int) + 1)) := by
  have key : (List.range 200).all (fun j => floatBits .add .f64 (iof (j : Int)) c1 == some (iof ((j : Int) + 1))) = true := by decide +kernel
  simpa using all_range key h
theorem iof_down {j : Nat} (h : j < 200) : floatBits .sub .f64 (iof (-(j : Int))) c1 = some (iof (-(j : Int) - 1)) := by
  have key : (List.range 200).all (fun j => floatBits .sub .f64 (iof (-(j : Int))) c1 == some (iof (-(j : Int) - 1))) = true := by decide +kernel
  simpa using all_range key h
theorem iof_fits {z : Int} (h1 : -200 ≤ z) (h2 : z ≤ 200) : Fits (FloatKind.f64.format.read (iof z)) 8 := by
  have key : (List.range 401).all (fun j => fitsB (FloatKind.f64.format.read (iof ((j : Int) - 200))) 8) = true := by decide +kernel
  have h := all_range key (j := (z + 200).toNat) (by omega)
  rw [show (((z + 200).toNat : Nat) : Int) - 200 = z by omega] at h
  exact fits_of h
/-- the divisors 25, 23, .., 1 -/
theorem div_fits {j : Nat} (h : j < 13) : Fits (FloatKind.f64.format.read (fop .quo .f64 c1 (iof (25 - 2 * (j : Int))))) 1 := by
  have key : (List.range 13).all (fun j => fitsB (FloatKind.f64.format.read (fop .quo .f64 c1 (iof (25 - 2 * (j : Int))))) 1) = true := by decide +kernel
  exact fits_of (all_range key h)
theorem div_down {j : Nat} (h : j < 13) : floatBits .sub .f64 (iof (25 - 2 * (j : Int))) c2 = some (iof (25 - 2 * ((j : Int) + 1))) ∧ (FloatKind.f64.format.order (iof (25 - 2 * (j : Int))) c1 == some .gt || FloatKind.f64.format.order (iof (25 - 2 * (j : Int))) c1 == some .eq) = true := by
  have key : (List.range 13).all (fun j => floatBits .sub .f64 (iof (25 - 2 * (j : Int))) c2 == some (iof (25 - 2 * ((j : Int) + 1))) && (FloatKind.f64.format.order (iof (25 - 2 * (j : Int))) c1 == some .gt || FloatKind.f64.format.order (iof (25 - 2 * (j : Int))) c1 == some .eq)) = true := by decide +kernel
  have h := all_range key h
  rw [Bool.and_eq_true] at h
  exact ⟨by simpa using h.1, h.2⟩
theorem div_end : FloatKind.f64.format.order (iof (25 - 2 * 13)) c1 = some .lt := by decide +kernel
theorem iof_zero : iof 0 = 0 := by decide
theorem iof_25 : iof 25 = 4627730092099895296 := by decide
def logS (t : Nat) : Nat := fop .quo .f64 (fop .sub .f64 t c1) (fop .add .f64 t c1)
def logU (t : Nat) : Nat := fop .mul .f64 (logS t) (logS t)
def logQ (u : Nat) : Nat → Nat
  | 0 => 0
  | j + 1 => fop .add .f64 (fop .quo .f64 c1 (iof (25 - 2 * (j : Int)))) (fop .mul .f64 u (logQ u j))
def logR (t : Nat) (e : Int) : Nat := fop .add .f64 (fop .mul .f64 c2 (fop .mul .f64 (logS t) (logQ (logU t) 13))) (fop .mul .f64 (iof e) cln2)
theorem lows (k : FloatKind) : k.format.leastPlace + k.format.fractionBits ≤ -10 := by cases k <;> decide
/-- what is left of t when one is taken is less than a half; with one put to it it is not less than one -/
theorem t_parts {t : Nat} (h1 : c075 ≤ t) (h2 : t < c15) : Fits (FloatKind.f64.format.read (fop .sub .f64 t c1)) (-1) ∧ ∃ n j, FloatKind.f64.format.read (fop .add .f64 t c1) = .number false n j ∧ n ≠ 0 ∧ 0 ≤ j + n.log2 := by
  have hr := read64 (b := t) (by unfold bin c075 at *; omega) (by unfold c15 inf64 at *; omega)
  have hc : FloatKind.f64.format.read c1 = .number false bin (-52) := by decide
  have hm := Nat.mod_lt t (show 0 < bin by decide)
  have hdm := Nat.div_add_mod t bin
  obtain ⟨fb, fi, fl, ff⟩ := fmt64
  have hcase : (t / bin = 1022 ∧ 2251799813685248 ≤ t % bin) ∨ (t / bin = 1023 ∧ t % bin < 2251799813685248) := by
    have hd : t / bin = 1022 ∨ t / bin = 1023 := by
      have a1 : 1022 ≤ t / bin := by rw [Nat.le_div_iff_mul_le (by decide)]; unfold c075 bin at *; omega
      have a2 : t / bin < 1024 := by rw [Nat.div_lt_iff_lt_mul (by decide)]; unfold c15 bin at *; omega
      omega
    rcases hd with hd | hd
    · left; refine ⟨hd, ?_⟩; rw [hd] at hdm; unfold c075 bin at *; omega
    · right; refine ⟨hd, ?_⟩; rw [hd] at hdm; unfold c15 bin at *; omega
  have hplace : -1074 + ((t / bin - 1 : Nat) : Int) = -53 ∨ -1074 + ((t / bin - 1 : Nat) : Int) = -52 := by omega
  constructor
  · have hs : ∃ r, (FloatKind.f64.format.read t).sum (FloatKind.f64.format.read c1).opposite = some r ∧ Fits r (-2) := by
      rw [hr, hc]
      refine ⟨_, rfl, _, _, _, rfl, ?_⟩
      rcases hcase with ⟨hd, hl⟩ | ⟨hd, hl⟩
      · have e1 : -1074 + ((t / bin - 1 : Nat) : Int) = -53 := by omega
        rw [e1]
        have hv : (signed false (bin + t % bin) (-53 - min (-53) (-52) : Int).toNat + signed (!false) bin (-52 - min (-53) (-52) : Int).toNat).natAbs ≤ 2251799813685248 := by
          rw [show (-53 - min (-53) (-52) : Int).toNat = 0 by decide, show (-52 - min (-53) (-52) : Int).toNat = 1 by decide]
          unfold signed
          simp only [Bool.not_false, if_true, Nat.shiftLeft_eq]
          rw [if_neg (by decide)]
          unfold bin at *
          omega
        by_cases h0 : (signed false (bin + t % bin) (-53 - min (-53) (-52) : Int).toNat + signed (!false) bin (-52 - min (-53) (-52) : Int).toNat).natAbs = 0
        · exact .inl h0
        · right
          have hlog : (signed false (bin + t % bin) (-53 - min (-53) (-52) : Int).toNat + signed (!false) bin (-52 - min (-53) (-52) : Int).toNat).natAbs.log2 < 52 := by
            rw [Nat.log2_lt h0]
            exact Nat.lt_of_le_of_lt hv (by decide)
          omega
      · have e1 : -1074 + ((t / bin - 1 : Nat) : Int) = -52 := by omega
        rw [e1]
        have hv : (signed false (bin + t % bin) (-52 - min (-52) (-52) : Int).toNat + signed (!false) bin (-52 - min (-52) (-52) : Int).toNat).natAbs < 2251799813685248 := by
          rw [show (-52 - min (-52) (-52) : Int).toNat = 0 by decide]
          unfold signed
          simp only [Bool.not_false, if_true, Nat.shiftLeft_zero]
          rw [if_neg (by decide)]
          unfold bin at *
          omega
        by_cases h0 : (signed false (bin + t % bin) (-52 - min (-52) (-52) : Int).toNat + signed (!false) bin (-52 - min (-52) (-52) : Int).toNat).natAbs = 0
        · exact .inl h0
        · right
          have hlog : (signed false (bin + t % bin) (-52 - min (-52) (-52) : Int).toNat + signed (!false) bin (-52 - min (-52) (-52) : Int).toNat).natAbs.log2 < 51 := by
            rw [Nat.log2_lt h0]
            exact Nat.lt_of_lt_of_le hv (by decide)
          omega
    obtain ⟨r, hr2, hf⟩ := hs
    have := fop_fits (op := .sub) (k := .f64) (x := t) (y := c1) (by unfold floatBits Format.sub; dsimp only; rw [hr2]; rfl) hf (by have := lows .f64; omega) (by decide)
    exact this
  · have hs : ∃ mag pl, (FloatKind.f64.format.read t).sum (FloatKind.f64.format.read c1) = some (.number false mag pl) ∧ mag ≠ 0 ∧ 0 ≤ pl + mag.log2 ∧ pl + mag.log2 ≤ 3 := by
      rw [hr, hc]
      rcases hcase with ⟨hd, hl⟩ | ⟨hd, hl⟩
      · have e1 : -1074 + ((t / bin - 1 : Nat) : Int) = -53 := by omega
        rw [e1]
        have hv : signed false (bin + t % bin) (-53 - min (-53) (-52) : Int).toNat + signed false bin (-52 - min (-53) (-52) : Int).toNat = ((bin + t % bin + bin * 2 : Nat) : Int) := by
          rw [show (-53 - min (-53) (-52) : Int).toNat = 0 by decide, show (-52 - min (-53) (-52) : Int).toNat = 1 by decide]
          unfold signed
          simp only [Nat.shiftLeft_eq]
          rw [if_neg (by decide), if_neg (by decide)]
          omega
        have hlog : (bin + t % bin + bin * 2).log2 = 53 := log2_of (by show (9007199254740992 : Nat) ≤ _; unfold bin at *; omega) (by show _ < (18014398509481984 : Nat); unfold bin at *; omega)
        refine ⟨bin + t % bin + bin * 2, -53, ?_, by unfold bin; omega, by rw [hlog]; decide, by rw [hlog]; decide⟩
        unfold Datum.sum
        dsimp only
        rw [hv, if_neg (by unfold bin; omega), show decide (((bin + t % bin + bin * 2 : Nat) : Int) < 0) = false by rw [decide_eq_false_iff_not]; omega]
        rfl
      · have e1 : -1074 + ((t / bin - 1 : Nat) : Int) = -52 := by omega
        rw [e1]
        have hv : signed false (bin + t % bin) (-52 - min (-52) (-52) : Int).toNat + signed false bin (-52 - min (-52) (-52) : Int).toNat = ((bin + t % bin + bin : Nat) : Int) := by
          rw [show (-52 - min (-52) (-52) : Int).toNat = 0 by decide]
          unfold signed
          simp only [Nat.shiftLeft_zero]
          rw [if_neg (by decide), if_neg (by decide)]
          omega
        have hlog : (bin + t % bin + bin).log2 = 53 := log2_of (by show (9007199254740992 : Nat) ≤ _; unfold bin at *; omega) (by show _ < (18014398509481984 : Nat); unfold bin at *; omega)
        refine ⟨bin + t % bin + bin, -52, ?_, by unfold bin; omega, by rw [hlog]; decide, by rw [hlog]; decide⟩
        unfold Datum.sum
        dsimp only
        rw [hv, if_neg (by unfold bin; omega), show decide (((bin + t % bin + bin : Nat) : Int) < 0) = false by rw [decide_eq_false_iff_not]; omega]
        rfl
    obtain ⟨mag, pl, hsum, hm0, hlo, hhi⟩ := hs
    obtain ⟨n, j, hn, hn0, hnl⟩ := nearest_low FloatKind.f64.format false mag pl hm0 (by have := lows .f64; omega) (by rw [ff, fl, fb, fi]; omega)
    refine ⟨n, j, ?_, hn0, by omega⟩
    have hfb : floatBits .add .f64 t c1 = some (FloatKind.f64.format.nearest false mag pl) := by
      unfold floatBits Format.add
      dsimp only
      rw [hsum]
      rfl
    rw [fop_some hfb, hn]
theorem logS_fits {t : Nat} (h1 : c075 ≤ t) (h2 : t < c15) : Fits (FloatKind.f64.format.read (logS t)) 0 := by
  obtain ⟨hx, n, j, hy, hn, hl⟩ := t_parts h1 h2
  exact quo_fits (F := -1) hx hy hn (L := 0) (by omega) (by omega) (by have := lows .f64; omega) (by decide)
theorem logU_fits {t : Nat} (h1 : c075 ≤ t) (h2 : t < c15) : Fits (FloatKind.f64.format.read (logU t)) 2 :=
  mul_fits (F := 1) (logS_fits h1 h2) (logS_fits h1 h2) (by omega) (by have := lows .f64; omega) (by decide)
theorem logQ_fits {u : Nat} (hu : Fits (FloatKind.f64.format.read u) 2) : ∀ j, j ≤ 13 → Fits (FloatKind.f64.format.read (logQ u j)) (6 * (j : Int)) := by
  intro j
  induction j with
  | zero => intro _; exact ⟨false, 0, -1074, by show FloatKind.f64.format.read 0 = _; decide, .inl rfl⟩
  | succ j ih =>
    intro hj
    have hq := mul_fits (k := .f64) (F := 6 * (j : Int) + 3) hu (ih (by omega)) (by omega) (by have := lows .f64; omega) (by unfold topE; dsimp only; omega)
    have hd := fits_mono (div_fits (j := j) (by omega)) (show (1 : Int) ≤ 6 * (j : Int) + 3 + 1 by omega)
    have := add_fits hd hq (by have := lows .f64; omega) (by unfold topE; dsimp only; omega)
    exact fits_mono this (by omega)
theorem logR_fits {t : Nat} {e : Int} (h1 : c075 ≤ t) (h2 : t < c15) (h3 : -200 ≤ e) (h4 : e ≤ 200) : Fits (FloatKind.f64.format.read (logR t e)) 85 := by
  have hq := logQ_fits (logU_fits h1 h2) 13 (by omega)
  have h5 := mul_fits (k := .f64) (F := 79) (logS_fits h1 h2) hq (by omega) (by have := lows .f64; omega) (by decide)
  have hc2 : Fits (FloatKind.f64.format.read c2) 1 := fits_of (by decide)
  have h6 := mul_fits (k := .f64) (F := 82) hc2 h5 (by omega) (by have := lows .f64; omega) (by decide)
  have hln : Fits (FloatKind.f64.format.read cln2) 0 := fits_of (by decide)
  have h7 := mul_fits (k := .f64) (F := 9) (iof_fits h3 h4) hln (by omega) (by have := lows .f64; omega) (by decide)
  exact add_fits h6 (fits_mono h7 (by omega)) (by have := lows .f64; omega) (by decide)
theorem fits_nar {r : Nat} {E : Int} (h : Fits (FloatKind.f64.format.read r) E) (hE : E < 126) : Nar r ∧ nanF .f32 (nar r) = false := by
  have h2 := fits_enc .f32 (fits_mono h (show E ≤ 126 by omega)) (by decide) (by decide)
  obtain ⟨s, m, p, he, _⟩ := h
  rw [he] at h2
  obtain ⟨h3, h4⟩ := fits_nan h2
  have h5 : floatToFloatBits .f64 r .f32 = some (FloatKind.f32.format.write (.number s m p)) := by
    unfold floatToFloatBits
    rw [if_neg (by decide), show FloatKind.f64.decode r = .number s m p from he]
    dsimp only
    rw [if_neg (by show ¬ (FloatKind.f32.format.read (FloatKind.f32.format.write (.number s m p))).isInfinity = true; rw [h4]; decide)]
    rfl
  refine ⟨.inr ⟨_, h5⟩, ?_⟩
  unfold nar
  rw [h5]
  exact h3
/-- a float32 that is finite and greater than nought -/
def Pos (x : Nat) : Prop := ∃ m p, FloatKind.f32.format.read x = .number false m p ∧ m ≠ 0
theorem pos_range {x : Nat} (h : Pos x) : 870 * bin ≤ wid x ∧ wid x < 1152 * bin ∧ floatToFloatBits .f32 x .f64 = some (wid x) := by
  obtain ⟨m, p, hr, hm⟩ := h
  obtain ⟨fb, fi, fl, ff⟩ := fmt64
  have hlim : -149 ≤ p + m.log2 ∧ p + m.log2 ≤ 127 ∧ m.log2 ≤ 23 := by
    obtain ⟨gb, gi, gl, gf⟩ := fmt32
    have hf := read_cases .f32 x
    rw [hr] at hf
    rcases hf with hf | ⟨s, hf⟩ | ⟨s, m', p', he, hf⟩
    · cases hf
    · cases hf
    · cases he
      have hu := hf.resolve_left hm
      refine ⟨?_, hu, ?_⟩
      · unfold Format.read at hr
        rw [gb, gi, gl] at hr
        dsimp only at hr
        split at hr
        · injection hr with _ h2 h3
          rw [← h3]
          omega
        · split at hr
          · injection hr with _ h2 h3
            rw [← h3]
            omega
          · split at hr <;> cases hr
      · unfold Format.read at hr
        rw [gb, gi, gl] at hr
        dsimp only at hr
        split at hr
        · rename_i h1
          injection hr with _ h2 h3
          have : m.log2 < 23 := by rw [Nat.log2_lt hm, ← h2]; exact h1
          omega
        · split at hr
          · injection hr with _ h2 h3
            have hlt : m < 2 ^ 24 := by
              rw [← h2]
              have := Nat.mod_lt (x % FloatKind.f32.format.signWeight) (show 0 < 8388608 by omega)
              show _ < 16777216
              omega
            have : m.log2 < 24 := by rw [Nat.log2_lt hm]; exact hlt
            omega
          · split at hr <;> cases hr
  obtain ⟨l1, l2, l3⟩ := hlim
  have hwid : ∃ r, floatToFloatBits .f32 x .f64 = some r ∧ r = FloatKind.f64.format.nearest false m p := by
    have hn : nanF .f32 x = false := by unfold nanF; rw [hr]; rfl
    have h1 := (wid_num hn).1
    refine ⟨wid x, h1, ?_⟩
    unfold floatToFloatBits at h1
    rw [if_neg (by decide), show FloatKind.f32.decode x = .number false m p from hr] at h1
    dsimp only at h1
    split at h1
    · cases h1
    · exact (Option.some.inj h1).symm
  obtain ⟨r, hr1, hr2⟩ := hwid
  have hw : wid x = r := by unfold wid; rw [hr1]; rfl
  rw [hw]
  refine ⟨?_, ?_, hr1⟩
  all_goals
    rw [hr2]
    unfold Format.nearest
    rw [if_neg hm, ff, fl, fb, fi]
    dsimp only
    have hlast : max (p + (m.log2 : Int) - ((52 : Nat) : Int)) (-1074) = p + m.log2 - 52 := by omega
    rw [hlast]
    obtain ⟨sh, hsh⟩ : ∃ sh, sh = (p - (p + (m.log2 : Int) - 52)).toNat := ⟨_, rfl⟩
    rw [← hsh, show (p + (m.log2 : Int) - 52 - p).toNat = 0 by omega]
    have hshv : sh = 52 - m.log2 := by omega
    have hcut : Toward.even.cut false (m <<< sh) 0 = m <<< sh := by
      unfold Toward.cut
      simp
      omega
    rw [hcut, Nat.shiftLeft_eq]
    have k1 : bin ≤ m * 2 ^ sh := by
      have h1 : 2 ^ m.log2 * 2 ^ sh ≤ m * 2 ^ sh := Nat.mul_le_mul_right _ (pow_le hm)
      rw [← Nat.pow_add, show m.log2 + sh = 52 by omega] at h1
      exact h1
    have k2 : m * 2 ^ sh < 2 * bin := by
      have h1 : m * 2 ^ sh < 2 ^ (m.log2 + 1) * 2 ^ sh := Nat.mul_lt_mul_of_pos_right lt_pow (Nat.two_pow_pos _)
      rw [← Nat.pow_add, show m.log2 + 1 + sh = 53 by omega] at h1
      exact h1
    have k3 : 873 ≤ (p + (m.log2 : Int) - 52 - -1074).toNat ∧ (p + (m.log2 : Int) - 52 - -1074).toNat ≤ 1149 := by omega
    obtain ⟨k3, k4⟩ := k3
    obtain ⟨y, hy⟩ : ∃ y, y = (p + (m.log2 : Int) - 52 - -1074).toNat := ⟨_, rfl⟩
    rw [← hy] at k3 k4 ⊢
    obtain ⟨z, hz⟩ : ∃ z, z = m * 2 ^ sh := ⟨_, rfl⟩
    rw [← hz] at k1 k2 ⊢
    rw [show ∀ z, FloatKind.f64.format.word false z = z from fun z => by simp [Format.word], Nat.min_eq_left (by unfold bin at *; omega)]
    unfold bin at *
    omega
end Go.Proofs.Ytcpimcjmckljfaa
