/- Floating point words: what is read, what is written, when a number fits, and how numbers compare. -/
import Derived.Laws.FloatArith
import Derived.Laws.NewFold
namespace Go.Proofs.Ytbefcfdmaafghaa
open Ieee

/-- a word is a NaN -/
def nanF (k : FloatKind) (x : Nat) : Bool := (k.format.read x).isNaN
theorem binade_pos (f : Format) : 0 < f.binade := Nat.two_pow_pos _
theorem word_div (f : Format) (neg : Bool) {r : Nat} (h : r < f.signWeight) : (f.word neg r / f.signWeight % 2 == 1) = neg := by
  have hp : 0 < f.signWeight := Nat.two_pow_pos _
  cases neg
  · simp [Format.word, Nat.div_eq_of_lt h]
  · simp only [Format.word, if_true]
    rw [Nat.add_div_left _ hp, Nat.div_eq_of_lt h]
    rfl
theorem word_mod (f : Format) (neg : Bool) {r : Nat} (h : r < f.signWeight) : f.word neg r % f.signWeight = r := by
  cases neg
  · simp [Format.word, Nat.mod_eq_of_lt h]
  · simp only [Format.word, if_true]
    rw [Nat.add_mod_left, Nat.mod_eq_of_lt h]
/-- what a word of a sign and a rung reads as -/
theorem read_word (f : Format) (neg : Bool) {r : Nat} (h : r < f.signWeight) : f.read (f.word neg r) =
    if r < f.binade then .number neg r f.leastPlace
    else if r < f.infRung then .number neg (f.binade + r % f.binade) (f.leastPlace + (r / f.binade - 1 : Nat))
    else if r = f.infRung then .infinity neg
    else .nan neg (r - f.infRung) := by
  unfold Format.read
  simp only [word_div f neg h, word_mod f neg h]
theorem cut_le (neg : Bool) (n drop : Nat) : Toward.even.cut neg n drop ≤ n / 2 ^ (min drop (n.log2 + 2)) + 1 := by
  unfold Toward.cut
  simp only [Nat.one_shiftLeft]
  have : ∀ b : Bool, b.toNat ≤ 1 := fun b => by cases b <;> simp
  exact Nat.add_le_add_left (this _) _
/-- the digits that are kept fit one binade's numbers -/
theorem kept_le (fb : Nat) (neg : Bool) (mag : Nat) (place last : Int) (_h0 : mag ≠ 0) (hl : place + mag.log2 - fb ≤ last) :
    Toward.even.cut neg (mag <<< (place - last).toNat) (last - place).toNat ≤ 2 ^ (fb + 1) := by
  have hm : mag < 2 ^ (mag.log2 + 1) := Nat.lt_log2_self
  have hc := cut_le neg (mag <<< (place - last).toNat) (last - place).toNat
  refine Nat.le_trans hc ?_
  by_cases h : last ≤ place
  · have e1 : (last - place).toNat = 0 := by omega
    rw [e1, Nat.zero_min, Nat.pow_zero, Nat.div_one, Nat.shiftLeft_eq]
    have hu : mag.log2 + 1 + (place - last).toNat ≤ fb + 1 := by omega
    have h1 : mag * 2 ^ (place - last).toNat < 2 ^ (mag.log2 + 1) * 2 ^ (place - last).toNat := Nat.mul_lt_mul_of_pos_right hm (Nat.two_pow_pos _)
    rw [← Nat.pow_add] at h1
    have h2 : 2 ^ (mag.log2 + 1 + (place - last).toNat) ≤ 2 ^ (fb + 1) := Nat.pow_le_pow_right (by omega) hu
    omega
  · have e1 : (place - last).toNat = 0 := by omega
    rw [e1, Nat.shiftLeft_zero]
    have hp : 1 ≤ 2 ^ (fb + 1) := Nat.one_le_two_pow
    by_cases h2 : (last - place).toNat < mag.log2 + 1
    · rw [Nat.min_eq_left (by omega)]
      have h3 : mag / 2 ^ (last - place).toNat < 2 ^ (mag.log2 + 1 - (last - place).toNat) := by
        rw [Nat.div_lt_iff_lt_mul (Nat.two_pow_pos _), ← Nat.pow_add]
        rwa [show mag.log2 + 1 - (last - place).toNat + (last - place).toNat = mag.log2 + 1 from by omega]
      have h4 : 2 ^ (mag.log2 + 1 - (last - place).toNat) ≤ 2 ^ (fb + 1) := Nat.pow_le_pow_right (by omega) (by omega)
      omega
    · have h3 : mag / 2 ^ (min (last - place).toNat (mag.log2 + 2)) = 0 := by
        refine Nat.div_eq_of_lt (Nat.lt_of_lt_of_le hm (Nat.pow_le_pow_right (by omega) (by omega)))
      omega
/-- the rung of the number nearest to mag * 2 ^ place -/
theorem nearest_rung (f : Format) (neg : Bool) (mag : Nat) (place E : Int) (h0 : mag ≠ 0) (hE : place + mag.log2 ≤ E) (hl : f.leastPlace + f.fractionBits ≤ E) :
    ∃ r, f.nearest neg mag place = f.word neg (min r f.infRung) ∧ r ≤ ((E - f.fractionBits - f.leastPlace).toNat + 2) * f.binade := by
  refine ⟨_, by unfold Format.nearest; rw [if_neg h0], ?_⟩
  have hk := kept_le f.fractionBits neg mag place (max (place + mag.log2 - f.fractionBits) f.leastPlace) h0 (Int.le_max_left _ _)
  have hlast : (max (place + mag.log2 - f.fractionBits) f.leastPlace - f.leastPlace).toNat ≤ (E - f.fractionBits - f.leastPlace).toNat := by omega
  have h1 := Nat.mul_le_mul_right f.binade hlast
  have h2 : 2 ^ (f.fractionBits + 1) = 2 * f.binade := by unfold Format.binade; rw [Nat.pow_succ, Nat.mul_comm]
  rw [Nat.add_mul]
  rw [h2] at hk
  exact Nat.add_le_add h1 hk
/-- a number: nought, or of a size below 2 ^ (E + 1) -/
def Fits (d : Datum) (E : Int) : Prop := ∃ s m p, d = .number s m p ∧ (m = 0 ∨ p + m.log2 ≤ E)
theorem infRung_lt' (f : Format) : f.infRung < f.signWeight := f.infRung_lt
/-- what is written of a number that is not too great is a number again, of nearly the same size -/
theorem fits_write (f : Format) (s : Bool) (m : Nat) (p E : Int) (h : m = 0 ∨ p + m.log2 ≤ E) (hl : f.leastPlace + f.fractionBits ≤ E) (hE : ((E - f.fractionBits - f.leastPlace).toNat + 2) * f.binade < f.infRung) :
    Fits (f.read (f.nearest s m p)) (E + 1) := by
  have hb := binade_pos f
  have key : ∃ r, f.nearest s m p = f.word s r ∧ r ≤ ((E - f.fractionBits - f.leastPlace).toNat + 2) * f.binade := by
    by_cases h0 : m = 0
    · exact ⟨0, by unfold Format.nearest; rw [if_pos h0], Nat.zero_le _⟩
    · obtain ⟨r, h1, h2⟩ := nearest_rung f s m p E h0 (h.resolve_left h0) hl
      exact ⟨r, by rw [h1, Nat.min_eq_left (by omega)], h2⟩
  obtain ⟨r, hr, hle⟩ := key
  have hrs : r < f.signWeight := by have := f.infRung_lt; omega
  rw [hr, read_word f s hrs]
  by_cases h1 : r < f.binade
  · rw [if_pos h1]
    refine ⟨_, _, _, rfl, ?_⟩
    by_cases h2 : r = 0
    · exact .inl h2
    · right
      have : r.log2 < f.fractionBits := by rw [Nat.log2_lt h2]; exact h1
      omega
  · rw [if_neg h1, if_pos (by omega)]
    refine ⟨_, _, _, rfl, .inr ?_⟩
    have h3 : r / f.binade ≤ (E - f.fractionBits - f.leastPlace).toNat + 2 := Nat.div_le_of_le_mul (by rw [Nat.mul_comm]; exact hle)
    have h4 : (f.binade + r % f.binade).log2 ≤ f.fractionBits := by
      have h5 : (f.binade + r % f.binade).log2 < f.fractionBits + 1 := by
        rw [Nat.log2_lt (by omega), Nat.pow_succ]
        have := Nat.mod_lt r hb
        unfold Format.binade at this ⊢
        omega
      omega
    omega
theorem fmt32 : FloatKind.f32.format.binade = 8388608 ∧ FloatKind.f32.format.infRung = 2139095040 ∧ FloatKind.f32.format.leastPlace = -149 ∧ FloatKind.f32.format.fractionBits = 23 := by decide
theorem fmt64 : FloatKind.f64.format.binade = 4503599627370496 ∧ FloatKind.f64.format.infRung = 9218868437227405312 ∧ FloatKind.f64.format.leastPlace = -1074 ∧ FloatKind.f64.format.fractionBits = 52 := by decide
/-- the greatest size of a number of a kind -/
def topE : FloatKind → Int | .f32 => 127 | .f64 => 1023
theorem top_rung (k : FloatKind) (r : Nat) (h : r < k.format.infRung) : k.format.leastPlace + ((r / k.format.binade - 1 : Nat) : Int) + k.format.fractionBits ≤ topE k := by
  cases k
  · obtain ⟨a, b, c, d⟩ := fmt32
    rw [b] at h
    rw [a, c, d]
    unfold topE
    dsimp only
    omega
  · obtain ⟨a, b, c, d⟩ := fmt64
    rw [b] at h
    rw [a, c, d]
    unfold topE
    dsimp only
    omega
theorem low_top (k : FloatKind) : k.format.leastPlace + k.format.fractionBits ≤ topE k := by cases k <;> decide
/-- every word is a NaN, an infinity or a number of the kind's size -/
theorem read_cases (k : FloatKind) (x : Nat) : (k.format.read x).isNaN = true ∨ (∃ s, k.format.read x = .infinity s) ∨ Fits (k.format.read x) (topE k) := by
  have hb := binade_pos k.format
  have hlow := low_top k
  unfold Format.read
  dsimp only
  split
  · rename_i h
    right; right
    refine ⟨_, _, _, rfl, ?_⟩
    by_cases h2 : x % k.format.signWeight = 0
    · exact .inl h2
    · right
      have : (x % k.format.signWeight).log2 < k.format.fractionBits := by rw [Nat.log2_lt h2]; exact h
      omega
  · split
    · rename_i h1 h2
      right; right
      refine ⟨_, _, _, rfl, .inr ?_⟩
      have h3 := top_rung k _ h2
      have h4 : (k.format.binade + x % k.format.signWeight % k.format.binade).log2 ≤ k.format.fractionBits := by
        have h5 : (k.format.binade + x % k.format.signWeight % k.format.binade).log2 < k.format.fractionBits + 1 := by
          rw [Nat.log2_lt (by omega), Nat.pow_succ]
          have := Nat.mod_lt (x % k.format.signWeight) hb
          unfold Format.binade at this ⊢
          omega
        omega
      omega
    · split
      · right; left; exact ⟨_, rfl⟩
      · left; rfl
theorem fits_nan {d : Datum} {E : Int} (h : Fits d E) : d.isNaN = false ∧ d.isInfinity = false := by
  obtain ⟨s, m, p, rfl, _⟩ := h
  exact ⟨rfl, rfl⟩
theorem fits_mono {d : Datum} {E E' : Int} (h : Fits d E) (hE : E ≤ E') : Fits d E' := by
  obtain ⟨s, m, p, rfl, h⟩ := h
  exact ⟨s, m, p, rfl, h.imp id fun h => by omega⟩
theorem inf_read (k : FloatKind) (s : Bool) : k.format.read (k.format.word s k.format.infRung) = .infinity s := by
  cases k <;> cases s <;> decide
/-- a number of size E is written as a number of the kind -/
theorem fits_enc (k : FloatKind) {d : Datum} {E : Int} (h : Fits d E) (hl : k.format.leastPlace + k.format.fractionBits ≤ E) (hE : E < topE k) : Fits (k.format.read (k.format.write d)) (E + 1) := by
  obtain ⟨s, m, p, rfl, h⟩ := h
  refine fits_write k.format s m p E h hl ?_
  cases k
  · obtain ⟨a, b, c, d⟩ := fmt32
    rw [a, b, c, d]
    unfold topE at hE
    dsimp only at hE
    omega
  · obtain ⟨a, b, c, d⟩ := fmt64
    rw [a, b, c, d]
    unfold topE at hE
    dsimp only at hE
    omega
/-- a float32 that is no NaN has its float64, which is none either -/
theorem widen (x : Nat) (h : nanF .f32 x = false) : ∃ r, floatToFloatBits .f32 x .f64 = some r ∧ nanF .f64 r = false := by
  unfold floatToFloatBits nanF at *
  rw [if_neg (by decide)]
  rcases read_cases .f32 x with h1 | ⟨s, h1⟩ | h1
  · rw [h1] at h; cases h
  · rw [show FloatKind.f32.decode x = .infinity s from h1]
    exact ⟨_, rfl, by show (FloatKind.f64.format.read (FloatKind.f64.format.word s FloatKind.f64.format.infRung)).isNaN = false; rw [inf_read]; rfl⟩
  · have h2 := fits_enc .f64 (fits_mono h1 (show topE .f32 ≤ 128 by decide)) (by decide) (by decide)
    obtain ⟨s, m, p, he, _⟩ := h1
    rw [show FloatKind.f32.decode x = .number s m p from he]
    rw [he] at h2
    obtain ⟨h3, h4⟩ := fits_nan h2
    dsimp only
    rw [if_neg (by show ¬ (FloatKind.f64.format.read (FloatKind.f64.format.write (.number s m p))).isInfinity = true; rw [h4]; decide)]
    exact ⟨_, rfl, h3⟩
theorem order_self {k : FloatKind} {x : Nat} (h : nanF k x = false) : k.format.order x x = some .eq := by
  unfold nanF at h
  unfold Format.order
  cases hd : k.format.read x with
  | nan s t => rw [hd] at h; cases h
  | infinity s => simp [Datum.order]
  | number s m p => simp [Datum.order]
theorem order_nan {k : FloatKind} {x : Nat} (h : nanF k x = true) (y : Nat) : k.format.order x y = none ∧ k.format.order y x = none := by
  unfold nanF at h
  unfold Format.order
  cases hd : k.format.read x with
  | nan s t => cases k.format.read y <;> exact ⟨rfl, rfl⟩
  | infinity s => rw [hd] at h; cases h
  | number s m p => rw [hd] at h; cases h
/-- what the model answers for a NaN's bits is a NaN's -/
theorem nan_conv (b t : Nat) : nanF .f64 ((Question.nanConv .f64 b).cut t) = true := by
  show (FloatKind.f64.format.read ((t % 2) * 2 ^ 63 + 0x7ff0000000000000 + 1 + (t / 2) % (2 ^ 52 - 1))).isNaN = true
  obtain ⟨a, b', c, d⟩ := fmt64
  have hs : FloatKind.f64.format.signWeight = 9223372036854775808 := by decide
  unfold Format.read
  rw [a, b', hs]
  dsimp only
  have hm : (t % 2 * 2 ^ 63 + 9218868437227405312 + 1 + t / 2 % (2 ^ 52 - 1)) % 9223372036854775808 = 9218868437227405312 + 1 + t / 2 % (2 ^ 52 - 1) := by omega
  simp only [hm]
  rw [if_neg (by omega), if_neg (by omega), if_neg (by omega)]
  rfl
theorem nan_bits (x y t : Nat) : nanF .f32 ((Question.nanBits .f32 x y).cut t) = true := by
  show (FloatKind.f32.format.read ((t % 2) * 2 ^ 31 + 0x7f800000 + 1 + (t / 2) % (2 ^ 23 - 1))).isNaN = true
  obtain ⟨a, b', c, d⟩ := fmt32
  have hs : FloatKind.f32.format.signWeight = 2147483648 := by decide
  unfold Format.read
  rw [a, b', hs]
  dsimp only
  have hm : (t % 2 * 2 ^ 31 + 2139095040 + 1 + t / 2 % (2 ^ 23 - 1)) % 2147483648 = 2139095040 + 1 + t / 2 % (2 ^ 23 - 1) := by omega
  simp only [hm]
  rw [if_neg (by omega), if_neg (by omega), if_neg (by omega)]
  rfl
/-- one divided by a nought -/
theorem one_div_zero {a : Nat} (h : FloatKind.f64.format.order a 0 = some .eq) : ∃ r, floatBits .quo .f64 4607182418800017408 a = some r := by
  unfold floatBits
  dsimp only
  unfold Format.order at h
  unfold Format.div
  have h1 : FloatKind.f64.format.read 4607182418800017408 = .number false 4503599627370496 (-52) := by decide
  have h0 : FloatKind.f64.format.read 0 = .number false 0 (-1074) := by decide
  rw [h0] at h
  rw [h1]
  cases hd : FloatKind.f64.format.read a with
  | nan s t => rw [hd] at h; cases h
  | infinity s => rw [hd] at h; cases s <;> simp [Datum.order] at h
  | number s m p =>
    unfold Datum.quotient
    dsimp only
    by_cases hm : m = 0
    · rw [if_pos hm, if_neg (by decide)]; exact ⟨_, rfl⟩
    · rw [if_neg hm]; exact ⟨_, rfl⟩
theorem nan_bits64 (x y t : Nat) : nanF .f64 ((Question.nanBits .f64 x y).cut t) = true := nan_conv 0 t
theorem nan_bitsK (k : FloatKind) (x y t : Nat) : nanF k ((Question.nanBits k x y).cut t) = true := by
  cases k
  · exact nan_bits x y t
  · exact nan_bits64 x y t
theorem nan_convK (b t : Nat) : nanF .f32 ((Question.nanConv .f32 b).cut t) = true := nan_bits 0 0 t
/-- an operation that has no answer: some NaN, one draw on -/
theorem run_arith_none {P : Program} (w : World) {op : BinOp} (t : TypeId) (k : FloatKind) (x y : Nat) (hop : op = .add ∨ op = .sub ∨ op = .mul ∨ op = .quo) (h : floatBits op k x y = none) :
    ∃ r, (binOp op t (.float k x) (.float k y)).run P w = .ok (.float k r) w.drew ∧ nanF k r = true := by
  unfold floatBits at h
  refine ⟨_, ?_, nan_bitsK k x y (w.tape w.drawn (.nanBits k x y))⟩
  rcases hop with rfl | rfl | rfl | rfl
  all_goals
    simp only at h
    simp [binOp, Op.floatArith, h, Question.forced]
/-- a NaN made into the other kind: some NaN, one draw on -/
theorem run_conv_nan {P : Program} (w : World) (src dst : TypeId) (s k : FloatKind) (b : Nat) (hs : (P.underlying src).isSome = true) (hd : P.underlying dst = some (.float k)) (hne : s ≠ k) (h : nanF s b = true) :
    ∃ r, (convert src dst (.float s b)).run P w = .ok (.float k r) w.drew ∧ nanF k r = true := by
  obtain ⟨u, hs'⟩ := Option.isSome_iff_exists.1 hs
  have hc : nanF k ((Question.nanConv k b).cut (w.tape w.drawn (.nanConv k b))) = true := by
    cases k
    · exact nan_convK b _
    · exact nan_conv b _
  refine ⟨_, ?_, hc⟩
  have hd' : ∃ sg t, s.decode b = .nan sg t := by
    unfold nanF at h
    show ∃ sg t, s.format.read b = .nan sg t
    cases hr : s.format.read b with
    | nan sg t => exact ⟨sg, t, rfl⟩
    | infinity sg => rw [hr] at h; cases h
    | number sg m p => rw [hr] at h; cases h
  obtain ⟨sg, t, he⟩ := hd'
  cases u <;> simp [convert, run_underlying hs', run_underlying hd, Conv.floatToFloat, hne, he, Question.forced]
end Go.Proofs.Ytbefcfdmaafghaa
