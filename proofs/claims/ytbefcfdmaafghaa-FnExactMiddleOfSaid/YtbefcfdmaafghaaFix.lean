/- How great floating point results are: sums, products, quotients; halves and doubles of normal numbers. -/
import Derived.Test.YtbefcfdmaafghaaFop
namespace Go.Proofs.Ytbefcfdmaafghaa
open Ieee
theorem lt_pow {m : Nat} : m < 2 ^ (m.log2 + 1) := Nat.lt_log2_self
theorem pow_le {m : Nat} (h : m ≠ 0) : 2 ^ m.log2 ≤ m := Nat.log2_self_le h
theorem signed_abs (s : Bool) (m u : Nat) : (signed s m u).natAbs = m * 2 ^ u := by
  unfold signed
  rw [Nat.shiftLeft_eq]
  cases s <;> simp [Int.natAbs_mul, Int.natAbs_pow]
/-- a number below 2 ^ (E + 1), told at a place below -/
theorem fits_at {m : Nat} {p E base : Int} (h : m = 0 ∨ p + m.log2 ≤ E) (hb : base ≤ p) (hE : base ≤ E + 1) : m * 2 ^ (p - base).toNat < 2 ^ (E + 1 - base).toNat ∨ m = 0 := by
  by_cases h0 : m = 0
  · exact .inr h0
  · left
    have h1 := h.resolve_left h0
    have h2 : m * 2 ^ (p - base).toNat < 2 ^ (m.log2 + 1) * 2 ^ (p - base).toNat := Nat.mul_lt_mul_of_pos_right lt_pow (Nat.two_pow_pos _)
    rw [← Nat.pow_add] at h2
    exact Nat.lt_of_lt_of_le h2 (Nat.pow_le_pow_right (by omega) (by omega))
theorem fits_opp {d : Datum} {E : Int} (h : Fits d E) : Fits d.opposite E := by
  obtain ⟨s, m, p, rfl, h⟩ := h
  exact ⟨!s, m, p, rfl, h⟩
theorem fits_sum {d d' : Datum} {E : Int} (h : Fits d E) (h' : Fits d' E) : ∃ r, d.sum d' = some r ∧ Fits r (E + 1) := by
  obtain ⟨s, m, i, rfl, h⟩ := h
  obtain ⟨t, n, j, rfl, h'⟩ := h'
  refine ⟨_, rfl, _, _, _, rfl, ?_⟩
  by_cases ht : (signed s m (i - min i j).toNat + signed t n (j - min i j).toNat).natAbs = 0
  · exact .inl ht
  · right
    have ha := Int.natAbs_add_le (signed s m (i - min i j).toNat) (signed t n (j - min i j).toNat)
    rw [signed_abs, signed_abs] at ha
    have hne : m ≠ 0 ∨ n ≠ 0 := by
      by_cases h1 : m = 0
      · right
        intro h2
        subst h1 h2
        simp at ha
        exact ht (by simpa using ha)
      · exact .inl h1
    have hbE : min i j ≤ E + 1 ∨ True := .inr trivial
    have hlog : (signed s m (i - min i j).toNat + signed t n (j - min i j).toNat).natAbs.log2 < (E + 2 - min i j).toNat := by
      rw [Nat.log2_lt ht]
      by_cases h1 : m = 0
      · subst h1
        have hn : n ≠ 0 := hne.resolve_left (fun h => h rfl)
        have h3 := h'.resolve_left hn
        by_cases hb : min i j ≤ E + 1
        · rcases fits_at (base := min i j) h' (Int.min_le_right _ _) hb with h4 | h4
          · have : 2 ^ (E + 1 - min i j).toNat ≤ 2 ^ (E + 2 - min i j).toNat := Nat.pow_le_pow_right (by omega) (by omega)
            omega
          · exact absurd h4 hn
        · have := Int.min_le_right i j
          omega
      · have h3 := h.resolve_left h1
        have hb : min i j ≤ E + 1 := by have := Int.min_le_left i j; omega
        have h4 := (fits_at (base := min i j) h (Int.min_le_left _ _) hb).resolve_right h1
        have h5 : n * 2 ^ (j - min i j).toNat < 2 ^ (E + 1 - min i j).toNat := by
          rcases fits_at (base := min i j) h' (Int.min_le_right _ _) hb with h6 | h6
          · exact h6
          · rw [h6, Nat.zero_mul]; exact Nat.two_pow_pos _
        have h7 : 2 ^ (E + 2 - min i j).toNat = 2 * 2 ^ (E + 1 - min i j).toNat := by
          rw [show (E + 2 - min i j).toNat = (E + 1 - min i j).toNat + 1 from by omega, Nat.pow_succ, Nat.mul_comm]
        omega
    omega
theorem fits_prod {d d' : Datum} {E E' : Int} (h : Fits d E) (h' : Fits d' E') : ∃ r, d.product d' = some r ∧ Fits r (E + E' + 1) := by
  obtain ⟨s, m, i, rfl, h⟩ := h
  obtain ⟨t, n, j, rfl, h'⟩ := h'
  refine ⟨_, rfl, _, _, _, rfl, ?_⟩
  by_cases hm : m = 0
  · left; rw [hm, Nat.zero_mul]
  · by_cases hn : n = 0
    · left; rw [hn, Nat.mul_zero]
    · right
      have h1 := h.resolve_left hm
      have h2 := h'.resolve_left hn
      have h3 : (m * n).log2 < m.log2 + 1 + (n.log2 + 1) := by
        rw [Nat.log2_lt (Nat.mul_ne_zero hm hn), Nat.pow_add]
        exact Nat.mul_lt_mul_of_lt_of_lt lt_pow lt_pow
      omega
theorem fits_quot {d : Datum} {E : Int} (g : Nat) (h : Fits d E) {t : Bool} {n : Nat} {j L : Int} (hn : n ≠ 0) (hL : L ≤ j + n.log2) : ∃ r, d.quotient g (.number t n j) = some r ∧ Fits r (E - L) := by
  obtain ⟨s, m, i, rfl, h⟩ := h
  refine ⟨_, by unfold Datum.quotient; dsimp only; rw [if_neg hn], _, _, _, rfl, ?_⟩
  by_cases hm : m = 0
  · left; subst hm; simp [Nat.shiftLeft_eq]
  · right
    have h1 := h.resolve_left hm
    obtain ⟨more, hmore⟩ : ∃ more, more = g + n.log2 - m.log2 := ⟨_, rfl⟩
    rw [← hmore, Nat.shiftLeft_eq]
    have hq : m * 2 ^ more / n < 2 ^ (m.log2 + 1 + more - n.log2) := by
      rw [Nat.div_lt_iff_lt_mul (Nat.pos_of_ne_zero hn)]
      have h3 : m * 2 ^ more < 2 ^ (m.log2 + 1 + more) := by
        rw [Nat.pow_add]; exact Nat.mul_lt_mul_of_pos_right lt_pow (Nat.two_pow_pos _)
      have h4 : 2 ^ (m.log2 + 1 + more) = 2 ^ (m.log2 + 1 + more - n.log2) * 2 ^ n.log2 := by
        rw [← Nat.pow_add]; congr 1; omega
      have h5 : 2 ^ (m.log2 + 1 + more - n.log2) * 2 ^ n.log2 ≤ 2 ^ (m.log2 + 1 + more - n.log2) * n := Nat.mul_le_mul_left _ (pow_le hn)
      omega
    have hs : ∀ b : Bool, b.toNat ≤ 1 := fun b => by cases b <;> simp
    have h6 := hs (m * 2 ^ more % n != 0)
    by_cases h0 : 2 * (m * 2 ^ more / n) + (m * 2 ^ more % n != 0).toNat = 0
    · rw [h0]
      have : Nat.log2 0 = 0 := by decide
      rw [this]
      have h7 : m * 2 ^ more / n = 0 := by omega
      have h8 : m * 2 ^ more % n = 0 := by
        have : (m * 2 ^ more % n != 0).toNat = 0 := by omega
        simpa using this
      have h9 := Nat.div_add_mod (m * 2 ^ more) n
      rw [h7, h8] at h9
      have := Nat.mul_ne_zero hm (Nat.ne_of_gt (Nat.two_pow_pos more))
      omega
    · have h7 : (2 * (m * 2 ^ more / n) + (m * 2 ^ more % n != 0).toNat).log2 < m.log2 + 1 + more - n.log2 + 1 := by
        rw [Nat.log2_lt h0, Nat.pow_succ]
        omega
      omega
/-- what is told of an operation's result: it is one, and of this size at most -/
theorem fop_fits {op : BinOp} {k : FloatKind} {x y : Nat} {r : Datum} {E : Int} (h : floatBits op k x y = some (k.format.write r)) (hr : Fits r E) (hl : k.format.leastPlace + k.format.fractionBits ≤ E) (hE : E < topE k) : Fits (k.format.read (fop op k x y)) (E + 1) := by
  rw [fop_some h]
  exact fits_enc k hr hl hE
theorem add_fits {k : FloatKind} {x y : Nat} {E : Int} (hx : Fits (k.format.read x) E) (hy : Fits (k.format.read y) E) (hl : k.format.leastPlace + k.format.fractionBits ≤ E + 1) (hE : E + 1 < topE k) : Fits (k.format.read (fop .add k x y)) (E + 2) := by
  obtain ⟨r, hr, hf⟩ := fits_sum hx hy
  have := fop_fits (op := .add) (x := x) (y := y) (by unfold floatBits Format.add; dsimp only; rw [hr]; rfl) hf hl hE
  rwa [show E + 1 + 1 = E + 2 from by omega] at this
theorem sub_fits {k : FloatKind} {x y : Nat} {E : Int} (hx : Fits (k.format.read x) E) (hy : Fits (k.format.read y) E) (hl : k.format.leastPlace + k.format.fractionBits ≤ E + 1) (hE : E + 1 < topE k) : Fits (k.format.read (fop .sub k x y)) (E + 2) := by
  obtain ⟨r, hr, hf⟩ := fits_sum hx (fits_opp hy)
  have := fop_fits (op := .sub) (x := x) (y := y) (by unfold floatBits Format.sub; dsimp only; rw [hr]; rfl) hf hl hE
  rwa [show E + 1 + 1 = E + 2 from by omega] at this
theorem mul_fits {k : FloatKind} {x y : Nat} {E E' F : Int} (hx : Fits (k.format.read x) E) (hy : Fits (k.format.read y) E') (hF : E + E' + 1 ≤ F) (hl : k.format.leastPlace + k.format.fractionBits ≤ F) (hE : F < topE k) : Fits (k.format.read (fop .mul k x y)) (F + 1) := by
  obtain ⟨r, hr, hf⟩ := fits_prod hx hy
  exact fop_fits (op := .mul) (x := x) (y := y) (by unfold floatBits Format.mul; dsimp only; rw [hr]; rfl) (fits_mono hf hF) hl hE
theorem quo_fits {k : FloatKind} {x y : Nat} {E L F : Int} (hx : Fits (k.format.read x) E) {t : Bool} {n : Nat} {j : Int} (hy : k.format.read y = .number t n j) (hn : n ≠ 0) (hL : L ≤ j + n.log2) (hF : E - L ≤ F) (hl : k.format.leastPlace + k.format.fractionBits ≤ F) (hE : F < topE k) : Fits (k.format.read (fop .quo k x y)) (F + 1) := by
  obtain ⟨r, hr, hf⟩ := fits_quot (k.format.fractionBits + 2) hx (t := t) hn hL
  exact fop_fits (op := .quo) (x := x) (y := y) (by unfold floatBits Format.div; dsimp only; rw [hy, hr]; rfl) (fits_mono hf hF) hl hE
theorem fits_num {k : FloatKind} {x : Nat} {E : Int} (h : Fits (k.format.read x) E) : nanF k x = false := (fits_nan h).1
/-- the nearest number to one that is not too small is not smaller than a power of two -/
theorem nearest_low (f : Format) (neg : Bool) (mag : Nat) (place : Int) (h0 : mag ≠ 0) (hl : f.leastPlace + f.fractionBits ≤ place + mag.log2) (hE : ((place + mag.log2 - f.fractionBits - f.leastPlace).toNat + 2) * f.binade < f.infRung) :
    ∃ m p, f.read (f.nearest neg mag place) = .number neg m p ∧ m ≠ 0 ∧ place + mag.log2 ≤ p + m.log2 := by
  have hb := binade_pos f
  have hlast : max (place + mag.log2 - f.fractionBits) f.leastPlace = place + mag.log2 - f.fractionBits := by omega
  obtain ⟨last, hlst⟩ : ∃ last, last = place + mag.log2 - f.fractionBits := ⟨_, rfl⟩
  obtain ⟨kept, hk⟩ : ∃ kept, kept = Toward.even.cut neg (mag <<< (place - last).toNat) (last - place).toNat := ⟨_, rfl⟩
  have hup : kept ≤ 2 ^ (f.fractionBits + 1) := by rw [hk]; exact kept_le f.fractionBits neg mag place last h0 (by omega)
  have hlow : 2 ^ f.fractionBits ≤ kept := by
    rw [hk]
    unfold Toward.cut
    simp only [Nat.one_shiftLeft]
    refine Nat.le_trans ?_ (Nat.le_add_right _ _)
    rw [Nat.shiftLeft_eq]
    by_cases hle : last ≤ place
    · have e1 : (last - place).toNat = 0 := by omega
      rw [e1, Nat.zero_min, Nat.pow_zero, Nat.div_one]
      have h1 : 2 ^ mag.log2 * 2 ^ (place - last).toNat ≤ mag * 2 ^ (place - last).toNat := Nat.mul_le_mul_right _ (pow_le h0)
      rw [← Nat.pow_add] at h1
      refine Nat.le_trans (Nat.pow_le_pow_right (by omega) (by omega)) h1
    · have e1 : (place - last).toNat = 0 := by omega
      rw [e1, Nat.pow_zero, Nat.mul_one, Nat.min_eq_left (by omega), Nat.le_div_iff_mul_le (Nat.two_pow_pos _), ← Nat.pow_add]
      refine Nat.le_trans (Nat.pow_le_pow_right (by omega) (by omega)) (pow_le h0)
  have hn : f.nearest neg mag place = f.word neg (min ((last - f.leastPlace).toNat * f.binade + kept) f.infRung) := by
    unfold Format.nearest
    rw [if_neg h0]
    dsimp only
    rw [hlast, ← hlst, ← hk]
  have h2 : 2 ^ (f.fractionBits + 1) = 2 * f.binade := by unfold Format.binade; rw [Nat.pow_succ, Nat.mul_comm]
  rw [h2] at hup
  have hlow' : f.binade ≤ kept := hlow
  have hr : (last - f.leastPlace).toNat * f.binade + kept < f.infRung := by
    rw [← hlst, Nat.add_mul] at hE
    omega
  rw [hn, Nat.min_eq_left (by omega), read_word f neg (by have := f.infRung_lt; omega), if_neg (by omega), if_pos hr]
  by_cases hc : kept < 2 * f.binade
  · have hd : ((last - f.leastPlace).toNat * f.binade + kept) / f.binade = (last - f.leastPlace).toNat + 1 := by
      rw [Nat.mul_comm, Nat.mul_add_div hb]
      congr 1
      exact Nat.div_eq_of_lt_le (by omega) (by omega)
    have hm : ((last - f.leastPlace).toNat * f.binade + kept) % f.binade = kept - f.binade := by
      rw [Nat.mul_comm, Nat.mul_add_mod, Nat.mod_eq_sub_mod hlow', Nat.mod_eq_of_lt (by omega)]
    rw [hd, hm]
    refine ⟨_, _, rfl, by omega, ?_⟩
    have h3 : f.fractionBits ≤ (f.binade + (kept - f.binade)).log2 := by
      rw [Nat.le_log2 (by omega)]
      show f.binade ≤ _
      omega
    omega
  · have hk2 : kept = 2 * f.binade := by omega
    have hd : ((last - f.leastPlace).toNat * f.binade + kept) / f.binade = (last - f.leastPlace).toNat + 2 := by
      rw [hk2, ← Nat.add_mul, Nat.mul_div_cancel _ hb]
    have hm : ((last - f.leastPlace).toNat * f.binade + kept) % f.binade = 0 := by
      rw [hk2, ← Nat.add_mul, Nat.mul_mod_left]
    rw [hd, hm]
    refine ⟨_, _, rfl, by omega, ?_⟩
    have h3 : f.fractionBits ≤ (f.binade + 0).log2 := by
      rw [Nat.le_log2 (by omega)]
      show f.binade ≤ _
      omega
    omega
end Go.Proofs.Ytbefcfdmaafghaa
