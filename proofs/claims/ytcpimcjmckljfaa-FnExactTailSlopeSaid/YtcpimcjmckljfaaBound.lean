/- Sums of numbers that are not too great are finite; what a finite result tells of the operands. -/
import Derived.Test.YtcpimcjmckljfaaRoots
import Derived.Test.YtcpimcjmckljfaaStill
namespace Go.Proofs.Ytcpimcjmckljfaa
open Ieee Go.RowKit
theorem fin_of {x : Nat} {s : Bool} {m : Nat} {p : Int} (h : FloatKind.f32.format.read x = .number s m p) : finB x = true := by
  have h1 : floatBits .sub .f32 x x = some (FloatKind.f32.format.nearest false 0 p) := by
    unfold floatBits Format.sub
    dsimp only
    rw [h]
    unfold Datum.opposite Datum.sum
    dsimp only
    have ht : signed s m (p - min p p).toNat + signed (!s) m (p - min p p).toNat = 0 := by
      unfold signed
      cases s <;> simp <;> omega
    rw [ht, if_pos rfl, show (s && !s) = false by cases s <;> rfl, Int.min_self]
    rfl
  rw [finB_some h1]
  unfold Format.nearest
  rw [if_pos rfl]
  rfl
theorem not_fin_inf {x : Nat} {s : Bool} (h : FloatKind.f32.format.read x = .infinity s) : finB x = false := by
  cases hf : finB x
  · rfl
  · obtain ⟨t, m, p, h1⟩ := fin_read hf
    rw [h] at h1; cases h1
theorem write_inf (s : Bool) : finB (FloatKind.f32.format.write (.infinity s)) = false := not_fin_inf (inf_read .f32 s)
theorem cut_up (neg : Bool) {n N d : Nat} (h : n ≤ N * 2 ^ d) : Toward.even.cut neg n d ≤ N := by
  unfold Toward.cut
  simp only [Nat.one_shiftLeft]
  have hb : ∀ b : Bool, b.toNat ≤ 1 := fun b => by cases b <;> simp
  by_cases hd : d ≤ n.log2 + 2
  · rw [Nat.min_eq_left hd]
    by_cases he : n = N * 2 ^ d
    · have h1 : n / 2 ^ d = N := by rw [he, Nat.mul_div_cancel _ (Nat.two_pow_pos _)]
      have h2 : n % 2 ^ d = 0 := by rw [he, Nat.mul_mod_left]
      have h3 := Nat.two_pow_pos d
      rw [h1, h2, show decide (2 ^ d < 2 * 0) = false by simp, show (2 ^ d == 2 * 0) = false by simp]
      simp
    · have h1 : n / 2 ^ d < N := by rw [Nat.div_lt_iff_lt_mul (Nat.two_pow_pos _)]; omega
      exact Nat.le_trans (Nat.add_le_add_left (hb _) _) h1
  · rw [Nat.min_eq_right (by omega)]
    have h0 : n < 2 ^ (n.log2 + 1) := Nat.lt_log2_self
    have h4 : 2 ^ (n.log2 + 2) = 2 * 2 ^ (n.log2 + 1) := by rw [Nat.pow_succ, Nat.mul_comm]
    have h1 : n / 2 ^ (n.log2 + 2) = 0 := Nat.div_eq_of_lt (by omega)
    have h2 : n % 2 ^ (n.log2 + 2) = n := Nat.mod_eq_of_lt (by omega)
    rw [h1, h2, show decide (2 ^ (n.log2 + 2) < 2 * n) = false by rw [decide_eq_false_iff_not]; omega, show (2 ^ (n.log2 + 2) == 2 * n) = false by rw [beq_eq_false_iff_ne]; omega]
    simp
theorem kept_low (fb : Nat) (neg : Bool) (mag : Nat) (place last : Int) (h0 : mag ≠ 0) (hl : last = place + mag.log2 - fb) : 2 ^ fb ≤ Toward.even.cut neg (mag <<< (place - last).toNat) (last - place).toNat := by
  unfold Toward.cut
  simp only [Nat.one_shiftLeft]
  refine Nat.le_trans ?_ (Nat.le_add_right _ _)
  rw [Nat.shiftLeft_eq]
  by_cases h : last ≤ place
  · have e1 : (last - place).toNat = 0 := by omega
    rw [e1, Nat.zero_min, Nat.pow_zero, Nat.div_one]
    have h1 : 2 ^ mag.log2 * 2 ^ (place - last).toNat ≤ mag * 2 ^ (place - last).toNat := Nat.mul_le_mul_right _ (pow_le h0)
    rw [← Nat.pow_add] at h1
    exact Nat.le_trans (Nat.pow_le_pow_right (by omega) (by omega)) h1
  · have e1 : (place - last).toNat = 0 := by omega
    rw [e1, Nat.pow_zero, Nat.mul_one, Nat.min_eq_left (by omega), Nat.le_div_iff_mul_le (Nat.two_pow_pos _), ← Nat.pow_add]
    exact Nat.le_trans (Nat.pow_le_pow_right (by omega) (by omega)) (pow_le h0)
/-- a number of a size, told in units of 2 ^ -149 -/
def Bd (x B : Nat) : Prop := ∃ s m p, FloatKind.f32.format.read x = .number s m p ∧ -149 ≤ p ∧ m * 2 ^ (p + 149).toNat ≤ B
theorem Bd.fin {x B : Nat} (h : Bd x B) : finB x = true := by
  obtain ⟨s, m, p, h, _⟩ := h
  exact fin_of h
theorem read_place {x : Nat} {s : Bool} {m : Nat} {p : Int} (h : FloatKind.f32.format.read x = .number s m p) : -149 ≤ p := by
  obtain ⟨a, b, c, d⟩ := fmt32
  unfold Format.read at h
  rw [a, b, c] at h
  dsimp only at h
  split at h
  · injection h with _ _ h3; omega
  · split at h
    · injection h with _ _ h3; omega
    · split at h <;> cases h
theorem nearest_bound (s : Bool) {mag K : Nat} {place : Int} (hp : -149 ≤ place) (hK : K < 512) (h : mag * 2 ^ (place + 149).toNat ≤ K * 2 ^ 213) : Bd (FloatKind.f32.format.nearest s mag place) (K * 2 ^ 213) := by
  obtain ⟨fa, fb, fc, fd⟩ := fmt32
  by_cases h0 : mag = 0
  · subst h0
    refine ⟨s, 0, -149, ?_, Int.le_refl _, by simp⟩
    unfold Format.nearest
    rw [if_pos rfl, read_word _ s (by decide), if_pos (by decide)]
    rfl
  · have hlg : mag.log2 + (place + 149).toNat < 222 := by
      have h1 : 2 ^ mag.log2 * 2 ^ (place + 149).toNat ≤ mag * 2 ^ (place + 149).toNat := Nat.mul_le_mul_right _ (pow_le h0)
      have h2 : K * 2 ^ 213 < 2 ^ 9 * 2 ^ 213 := Nat.mul_lt_mul_of_pos_right (by omega) (Nat.two_pow_pos _)
      rw [← Nat.pow_add] at h1 h2
      exact (Nat.pow_lt_pow_iff_right (by decide)).1 (Nat.lt_of_le_of_lt (Nat.le_trans h1 h) h2)
    obtain ⟨last, hlast⟩ : ∃ last, last = max (place + mag.log2 - 23) (-149) := ⟨_, rfl⟩
    obtain ⟨L, hL⟩ : ∃ L : Nat, last = (L : Int) - 149 := ⟨(last + 149).toNat, by omega⟩
    have hL2 : L ≤ 198 := by omega
    obtain ⟨kept, hk⟩ : ∃ kept, kept = Toward.even.cut s (mag <<< (place - last).toNat) (last - place).toNat := ⟨_, rfl⟩
    have hup : kept ≤ 2 ^ 24 := by rw [hk]; exact kept_le 23 s mag place last h0 (by omega)
    have hbd : kept * 2 ^ L ≤ K * 2 ^ 213 := by
      by_cases hlp : last ≤ place
      · have e1 : (last - place).toNat = 0 := by omega
        have hc : kept ≤ mag * 2 ^ (place - last).toNat := by
          rw [hk, e1, Nat.shiftLeft_eq]
          exact cut_up s (by rw [Nat.pow_zero, Nat.mul_one]; exact Nat.le_refl _)
        refine Nat.le_trans (Nat.mul_le_mul_right _ hc) ?_
        rw [Nat.mul_assoc, ← Nat.pow_add, show (place - last).toNat + L = (place + 149).toNat by omega]
        exact h
      · have e1 : (place - last).toNat = 0 := by omega
        have hc : kept ≤ K * 2 ^ (213 - L) := by
          rw [hk, e1, Nat.shiftLeft_zero]
          refine cut_up s ?_
          rw [Nat.mul_assoc, ← Nat.pow_add]
          refine Nat.le_of_mul_le_mul_right (c := 2 ^ (place + 149).toNat) ?_ (Nat.two_pow_pos _)
          rw [Nat.mul_assoc, ← Nat.pow_add, show 213 - L + (last - place).toNat + (place + 149).toNat = 213 by omega]
          exact h
        refine Nat.le_trans (Nat.mul_le_mul_right _ hc) ?_
        rw [Nat.mul_assoc, ← Nat.pow_add, show 213 - L + L = 213 by omega]
        exact Nat.le_refl _
    have hlow : 0 < L → 2 ^ 23 ≤ kept := fun h => by rw [hk]; exact kept_low 23 s mag place last h0 (by omega)
    have hn : FloatKind.f32.format.nearest s mag place = FloatKind.f32.format.word s (L * 8388608 + kept) := by
      unfold Format.nearest
      rw [if_neg h0]
      dsimp only
      rw [fa, fb, fc, fd, show max (place + (mag.log2 : Int) - ((23 : Nat) : Int)) (-149) = last by omega, ← hk, show (last - -149).toNat = L by omega, Nat.min_eq_left (by omega)]
    rw [hn]
    unfold Bd
    rw [read_word _ s (by have := FloatKind.f32.format.infRung_lt; rw [fb] at this; omega), fa, fb, fc]
    by_cases h1 : L * 8388608 + kept < 8388608
    · rw [if_pos h1]
      obtain rfl : L = 0 := by omega
      refine ⟨_, _, _, rfl, Int.le_refl _, ?_⟩
      simpa using hbd
    · rw [if_neg h1, if_pos (by omega)]
      refine ⟨_, _, _, rfl, by omega, ?_⟩
      refine Nat.le_trans (Nat.le_of_eq ?_) hbd
      have hcase : kept < 16777216 ∨ kept = 16777216 := by omega
      have hk8 : 8388608 ≤ kept := by
        by_cases hL0 : 0 < L
        · exact hlow hL0
        · omega
      rcases hcase with hc | hc
      · have e1 : (L * 8388608 + kept) / 8388608 = L + 1 := by omega
        have e2 : (L * 8388608 + kept) % 8388608 = kept - 8388608 := by omega
        rw [e1, e2, show 8388608 + (kept - 8388608) = kept by omega, show (-149 + ((L + 1 - 1 : Nat) : Int) + 149).toNat = L by omega]
      · have e1 : (L * 8388608 + kept) / 8388608 = L + 2 := by omega
        have e2 : (L * 8388608 + kept) % 8388608 = 0 := by omega
        rw [e1, e2, hc, show (-149 + ((L + 2 - 1 : Nat) : Int) + 149).toNat = L + 1 by omega, Nat.pow_succ]
        omega
theorem bd_add {x y K1 K2 : Nat} (hx : Bd x (K1 * 2 ^ 213)) (hy : Bd y (K2 * 2 ^ 213)) (hK : K1 + K2 < 512) : Bd (fop .add .f32 x y) ((K1 + K2) * 2 ^ 213) := by
  obtain ⟨s, m, p, h1, hp, hm⟩ := hx
  obtain ⟨t, n, q, h2, hq, hn⟩ := hy
  obtain ⟨base, hb⟩ : ∃ base, base = min p q := ⟨_, rfl⟩
  obtain ⟨total, ht⟩ : ∃ total, total = signed s m (p - base).toNat + signed t n (q - base).toNat := ⟨_, rfl⟩
  have he : floatBits .add .f32 x y = some (FloatKind.f32.format.nearest (if total = 0 then s && t else total < 0) total.natAbs base) := by
    unfold floatBits Format.add
    dsimp only
    rw [h1, h2]
    unfold Datum.sum
    dsimp only
    rw [← hb, ← ht]
    rfl
  rw [fop_some he]
  refine nearest_bound _ (by omega) hK ?_
  have h3 : total.natAbs ≤ m * 2 ^ (p - base).toNat + n * 2 ^ (q - base).toNat := by
    rw [ht]
    refine Nat.le_trans (Int.natAbs_add_le _ _) ?_
    rw [signed_abs, signed_abs]
    exact Nat.le_refl _
  refine Nat.le_trans (Nat.mul_le_mul_right _ h3) ?_
  rw [Nat.add_mul, Nat.add_mul, Nat.mul_assoc, Nat.mul_assoc, ← Nat.pow_add, ← Nat.pow_add, show (p - base).toNat + (base + 149).toNat = (p + 149).toNat by omega, show (q - base).toNat + (base + 149).toNat = (q + 149).toNat by omega]
  exact Nat.add_le_add hm hn
theorem nearest_inf (s : Bool) {mag : Nat} {place : Int} (h0 : mag ≠ 0) (h : 128 ≤ place + mag.log2) : FloatKind.f32.format.read (FloatKind.f32.format.nearest s mag place) = .infinity s := by
  obtain ⟨fa, fb, fc, fd⟩ := fmt32
  have hk := kept_low 23 s mag place (place + mag.log2 - 23) h0 (by omega)
  have hn : FloatKind.f32.format.nearest s mag place = FloatKind.f32.format.word s FloatKind.f32.format.infRung := by
    unfold Format.nearest
    rw [if_neg h0]
    dsimp only
    rw [fa, fc, fd, show max (place + (mag.log2 : Int) - ((23 : Nat) : Int)) (-149) = place + mag.log2 - 23 by omega]
    rw [Nat.min_eq_right]
    rw [fb]
    have : 254 ≤ (place + (mag.log2 : Int) - 23 - -149).toNat := by omega
    omega
  rw [hn, inf_read]
theorem bd_of_sq {x : Nat} (hx : finB x = true) (h : finB (fop .mul .f32 x x) = true) : Bd x (1 * 2 ^ 213) := by
  obtain ⟨s, m, p, h1⟩ := fin_read hx
  have hp := read_place h1
  refine ⟨s, m, p, h1, hp, ?_⟩
  by_cases h0 : m = 0
  · subst h0; simp
  · have he : floatBits .mul .f32 x x = some (FloatKind.f32.format.nearest (s ^^ s) (m * m) (p + p)) := by
      unfold floatBits Format.mul
      dsimp only
      rw [h1]
      rfl
    rw [fop_some he] at h
    have hl : p + m.log2 < 64 := by
      refine Decidable.byContradiction fun hc => ?_
      have hm2 : m * m ≠ 0 := Nat.mul_ne_zero h0 h0
      have h2 : 2 * m.log2 ≤ (m * m).log2 := by
        rw [Nat.le_log2 hm2, Nat.two_mul, Nat.pow_add]
        exact Nat.mul_le_mul (pow_le h0) (pow_le h0)
      have := not_fin_inf (nearest_inf (s ^^ s) hm2 (place := p + p) (by omega))
      rw [this] at h
      cases h
    have h3 : m * 2 ^ (p + 149).toNat < 2 ^ (m.log2 + 1) * 2 ^ (p + 149).toNat := Nat.mul_lt_mul_of_pos_right lt_pow (Nat.two_pow_pos _)
    rw [← Nat.pow_add] at h3
    rw [Nat.one_mul]
    exact Nat.le_trans (Nat.le_of_lt h3) (Nat.pow_le_pow_right (by omega) (by omega))
theorem fin_add {x y : Nat} (h : finB (fop .add .f32 x y) = true) : finB x = true ∧ finB y = true := by
  have hn : nanF .f32 x = false ∧ nanF .f32 y = false := by
    constructor
    · cases hq : nanF .f32 x
      · rfl
      · rw [finB_nan (fop_nan arith_add (.inl hq))] at h; cases h
    · cases hq : nanF .f32 y
      · rfl
      · rw [finB_nan (fop_nan arith_add (.inr hq))] at h; cases h
  have key : ∀ d, (FloatKind.f32.format.read x).sum (FloatKind.f32.format.read y) = d → (d = none ∨ ∃ s, d = some (.infinity s)) → False := by
    intro d hd hc
    have he : floatBits .add .f32 x y = d.map FloatKind.f32.format.write := by
      unfold floatBits Format.add
      dsimp only
      rw [hd]
    rcases hc with rfl | ⟨s, rfl⟩
    · have : nanF .f32 (fop .add .f32 x y) = true := by unfold fop; rw [he]; exact qnan_nan .f32
      rw [finB_nan this] at h; cases h
    · rw [fop_some he, write_inf] at h; cases h
  rcases num_read hn.1 with ⟨s, h1⟩ | ⟨s, m, p, h1⟩
  · exfalso
    rcases num_read hn.2 with ⟨t, h2⟩ | ⟨t, n, q, h2⟩
    · refine key _ (by rw [h1, h2]) ?_
      unfold Datum.sum
      dsimp only
      split
      · exact .inr ⟨_, rfl⟩
      · exact .inl rfl
    · exact key (some (.infinity s)) (by rw [h1, h2]; rfl) (.inr ⟨_, rfl⟩)
  · rcases num_read hn.2 with ⟨t, h2⟩ | ⟨t, n, q, h2⟩
    · exact (key (some (.infinity t)) (by rw [h1, h2]; rfl) (.inr ⟨_, rfl⟩)).elim
    · exact ⟨fin_of h1, fin_of h2⟩
theorem fin_quo {x y : Nat} (hy : finB y = true) (h : finB (fop .quo .f32 x y) = true) : finB x = true := by
  have hn : nanF .f32 x = false := by
    cases hq : nanF .f32 x
    · rfl
    · rw [finB_nan (fop_nan arith_quo (.inl hq))] at h; cases h
  obtain ⟨t, n, q, h2⟩ := fin_read hy
  rcases num_read hn with ⟨s, h1⟩ | ⟨s, m, p, h1⟩
  · exfalso
    have he : floatBits .quo .f32 x y = some (FloatKind.f32.format.write (.infinity (s ^^ t))) := by
      unfold floatBits Format.div
      dsimp only
      rw [h1, h2]
      rfl
    rw [fop_some he, write_inf] at h
    cases h
  · exact fin_of h1
theorem fin_root {x : Nat} (h : finB (rootC x) = true) : finB x = true := by
  cases hn : nanF .f32 x
  · rcases num_read hn with ⟨s, h1⟩ | ⟨s, m, p, h1⟩
    · exfalso
      have hw := inf_wid h1
      cases s
      · have : sqC (wid x) = FloatKind.f64.format.write (.infinity false) := by unfold sqC Format.sqrt; rw [hw]; rfl
        unfold rootC at h
        rw [not_fin_inf (inf_nar (s := false) (by rw [this]; exact inf_read .f64 false)).2] at h
        cases h
      · have : sqC (wid x) = qnan .f64 := by unfold sqC Format.sqrt; rw [hw]; rfl
        unfold rootC at h
        rw [this, finB_nan (nar_nan (qnan_nan .f64))] at h
        cases h
    · exact fin_of h1
  · unfold rootC at h
    rw [finB_nan (nar_nan (sqC_nan (wid_nan hn)))] at h
    cases h
theorem fin_sum {l : List Nat} (h : finB (sumF l) = true) : ∀ x ∈ l, finB x = true := by
  have key : ∀ k (l : List Nat), l.length = k → finB (sumF l) = true → ∀ x ∈ l, finB x = true := by
    intro k
    induction k with
    | zero => intro l hl _ x hx; rw [List.eq_nil_of_length_eq_zero hl] at hx; cases hx
    | succ k ih =>
      intro l hl h x hx
      have hc : l = l.take k ++ [l[k]'(by omega)] := by rw [← List.take_succ_eq_append_getElem (by omega), List.take_of_length_le (by omega)]
      rw [hc, sumF_snoc] at h
      obtain ⟨h1, h2⟩ := fin_add h
      rw [hc] at hx
      rcases List.mem_append.1 hx with hx | hx
      · exact ih _ (by rw [List.length_take]; omega) h1 x hx
      · simp at hx; rw [hx]; exact h2
  exact key _ l rfl h
theorem bd_sums {l : List Nat} (h : ∀ x ∈ l, Bd x (1 * 2 ^ 213)) (hl : l.length ≤ 256) : ∀ k, k ≤ l.length → Bd (sumF (l.take k)) (k * 2 ^ 213) := by
  intro k
  induction k with
  | zero => intro _; exact ⟨false, 0, -149, by rw [List.take_zero]; decide, Int.le_refl _, by simp⟩
  | succ k ih =>
    intro hk
    rw [sumF_take (by omega)]
    exact bd_add (ih (by omega)) (h _ (List.getElem_mem (by omega))) (by omega)
end Go.Proofs.Ytcpimcjmckljfaa
