/- Finite float32s; sums of small numbers are finite. -/
import Derived.Test.YtbefcfdmaafghaaFix
import Derived.Test.YtbefcfdmaafghaaFlos
import Derived.Laws.Externs
namespace Go.Proofs.Ytbefcfdmaafghaa
open Ieee Go.RowKit
theorem finB_nan {x : Nat} (h : nanF .f32 x = true) : finB x = false := finB_none (fb_nan arith_sub (.inl h))
theorem finB_sim {x y : Nat} (h : Sim .f32 x y) : finB x = finB y := by
  rcases h with rfl | ⟨h1, h2⟩
  · rfl
  · rw [finB_nan h1, finB_nan h2]
theorem fin_num {x : Nat} (h : finB x = true) : nanF .f32 x = false := by
  cases hn : nanF .f32 x
  · rfl
  · rw [finB_nan hn] at h; cases h
/-- the sum from the left -/
def sumF (xs : List Nat) : Nat := xs.foldl (fop .add .f32) 0
theorem sumF_snoc (xs : List Nat) (x : Nat) : sumF (xs ++ [x]) = fop .add .f32 (sumF xs) x := by unfold sumF; rw [List.foldl_append]; rfl
theorem sumF_take {xs : List Nat} {k : Nat} (h : k < xs.length) : sumF (xs.take (k + 1)) = fop .add .f32 (sumF (xs.take k)) xs[k] := by
  rw [List.take_succ_eq_append_getElem h, sumF_snoc]
theorem rung_num (f : Format) (s : Bool) {r : Nat} (h : r ≤ f.infRung) : (f.read (f.word s r)).isNaN = false := by
  rw [read_word f s (Nat.lt_of_le_of_lt h f.infRung_lt)]
  split
  · rfl
  · split
    · rfl
    · rw [if_pos (by omega)]; rfl
theorem nearest_num (f : Format) (s : Bool) (m : Nat) (p : Int) : (f.read (f.nearest s m p)).isNaN = false := by
  unfold Format.nearest
  split
  · exact rung_num f s (Nat.zero_le _)
  · exact rung_num f s (Nat.min_le_right _ _)
theorem write_num (f : Format) {d : Datum} (h : d.isNaN = false) : (f.read (f.write d)).isNaN = false := by
  cases d with
  | nan s t => cases h
  | infinity s => exact rung_num f s (Nat.le_refl _)
  | number s m p => exact nearest_num f s m p
theorem num_read {k : FloatKind} {x : Nat} (h : nanF k x = false) : (∃ s, k.format.read x = .infinity s) ∨ ∃ s m p, k.format.read x = .number s m p := by
  unfold nanF at h
  cases hd : k.format.read x with
  | nan s t => rw [hd] at h; cases h
  | infinity s => exact .inl ⟨s, rfl⟩
  | number s m p => exact .inr ⟨s, m, p, rfl⟩
theorem fin_read {x : Nat} (h : finB x = true) : ∃ s m p, FloatKind.f32.format.read x = .number s m p := by
  rcases num_read (fin_num h) with ⟨s, h1⟩ | h1
  · exfalso
    have : floatBits .sub .f32 x x = none := by
      unfold floatBits
      show Option.map _ _ = none
      rw [h1]
      cases s <;> rfl
    rw [finB_none this] at h
    cases h
  · exact h1
theorem op_some {op : BinOp} {k : FloatKind} {x y : Nat} {d : Datum} (h : floatBits op k x y = some (k.format.write d)) (hd : d.isNaN = false) : floatBits op k x y = some (fop op k x y) ∧ nanF k (fop op k x y) = false := by
  rw [fop_some h]
  exact ⟨h, write_num _ hd⟩
theorem mul_num {x y : Nat} (hx : finB x = true) (hy : finB y = true) : floatBits .mul .f32 x y = some (fop .mul .f32 x y) ∧ nanF .f32 (fop .mul .f32 x y) = false := by
  obtain ⟨s, m, p, h1⟩ := fin_read hx
  obtain ⟨t, n, q, h2⟩ := fin_read hy
  refine op_some (d := .number (s ^^ t) (m * n) (p + q)) ?_ rfl
  unfold floatBits Format.mul
  dsimp only
  rw [h1, h2]
  rfl
theorem sum_num {d e : Datum} (h1 : d.isNaN = false) (h2 : ∃ s m p, e = .number s m p) : ∃ r, d.sum e = some r ∧ r.isNaN = false := by
  obtain ⟨t, n, q, rfl⟩ := h2
  cases d with
  | nan s t => cases h1
  | infinity s => exact ⟨_, rfl, rfl⟩
  | number s m p => exact ⟨_, rfl, rfl⟩
theorem add_num {x y : Nat} (hx : nanF .f32 x = false) (hy : finB y = true) : floatBits .add .f32 x y = some (fop .add .f32 x y) ∧ nanF .f32 (fop .add .f32 x y) = false := by
  obtain ⟨r, h1, h2⟩ := sum_num hx (fin_read hy)
  refine op_some (d := r) ?_ h2
  unfold floatBits Format.add
  dsimp only
  rw [h1]
  rfl
theorem sub_num {x y : Nat} (hx : finB x = true) (hy : nanF .f32 y = false) : floatBits .sub .f32 x y = some (fop .sub .f32 x y) ∧ nanF .f32 (fop .sub .f32 x y) = false := by
  obtain ⟨s, m, p, h1⟩ := fin_read hx
  have key : ∃ r, (FloatKind.f32.format.read x).sum (FloatKind.f32.format.read y).opposite = some r ∧ r.isNaN = false := by
    rw [h1]
    rcases num_read hy with ⟨t, h2⟩ | ⟨t, n, q, h2⟩ <;> rw [h2] <;> exact ⟨_, rfl, rfl⟩
  obtain ⟨r, h2, h3⟩ := key
  refine op_some (d := r) ?_ h3
  unfold floatBits Format.sub
  dsimp only
  rw [h2]
  rfl
theorem run_num {P : Program} {op : BinOp} {k : FloatKind} {x y r : Nat} (h : floatBits op k x y = some r) : ∀ t w, (binOp op t (.float k x) (.float k y)).run P w = .ok (.float k r) w :=
  fun t w => run_float_arith w op t k x y r h
theorem fin_of {x : Nat} {s : Bool} {m : Nat} {p : Int} (h : FloatKind.f32.format.read x = .number s m p) : finB x = true := by
  have h1 : floatBits .sub .f32 x x = some (FloatKind.f32.format.nearest false 0 p) := by
    unfold floatBits Format.sub
    dsimp only
    rw [h]
    unfold Datum.opposite Datum.sum
    dsimp only
    have ht : signed s m (p - min p p).toNat + signed (!s) m (p - min p p).toNat = 0 := by
      unfold signed
      cases s <;> simp <;> omega
    rw [ht, if_pos rfl, show (s && !s) = false by cases s <;> rfl, Int.min_self]
    rfl
  rw [finB_some h1]
  unfold Format.nearest
  rw [if_pos rfl]
  rfl
theorem cut_up (neg : Bool) {n N d : Nat} (h : n ≤ N * 2 ^ d) : Toward.even.cut neg n d ≤ N := by
  unfold Toward.cut
  simp only [Nat.one_shiftLeft]
  have hb : ∀ b : Bool, b.toNat ≤ 1 := fun b => by cases b <;> simp
  by_cases hd : d ≤ n.log2 + 2
  · rw [Nat.min_eq_left hd]
    by_cases he : n = N * 2 ^ d
    · have h1 : n / 2 ^ d = N := by rw [he, Nat.mul_div_cancel _ (Nat.two_pow_pos _)]
      have h2 : n % 2 ^ d = 0 := by rw [he, Nat.mul_mod_left]
      have h3 := Nat.two_pow_pos d
      rw [h1, h2, show decide (2 ^ d < 2 * 0) = false by simp, show (2 ^ d == 2 * 0) = false by simp]
      simp
    · have h1 : n / 2 ^ d < N := by rw [Nat.div_lt_iff_lt_mul (Nat.two_pow_pos _)]; omega
      exact Nat.le_trans (Nat.add_le_add_left (hb _) _) h1
  · rw [Nat.min_eq_right (by omega)]
    have h0 : n < 2 ^ (n.log2 + 1) := Nat.lt_log2_self
    have h4 : 2 ^ (n.log2 + 2) = 2 * 2 ^ (n.log2 + 1) := by rw [Nat.pow_succ, Nat.mul_comm]
    have h1 : n / 2 ^ (n.log2 + 2) = 0 := Nat.div_eq_of_lt (by omega)
    have h2 : n % 2 ^ (n.log2 + 2) = n := Nat.mod_eq_of_lt (by omega)
    rw [h1, h2, show decide (2 ^ (n.log2 + 2) < 2 * n) = false by rw [decide_eq_false_iff_not]; omega, show (2 ^ (n.log2 + 2) == 2 * n) = false by rw [beq_eq_false_iff_ne]; omega]
    simp
theorem kept_low (fb : Nat) (neg : Bool) (mag : Nat) (place last : Int) (h0 : mag ≠ 0) (hl : last = place + mag.log2 - fb) : 2 ^ fb ≤ Toward.even.cut neg (mag <<< (place - last).toNat) (last - place).toNat := by
  unfold Toward.cut
  simp only [Nat.one_shiftLeft]
  refine Nat.le_trans ?_ (Nat.le_add_right _ _)
  rw [Nat.shiftLeft_eq]
  by_cases h : last ≤ place
  · have e1 : (last - place).toNat = 0 := by omega
    rw [e1, Nat.zero_min, Nat.pow_zero, Nat.div_one]
    have h1 : 2 ^ mag.log2 * 2 ^ (place - last).toNat ≤ mag * 2 ^ (place - last).toNat := Nat.mul_le_mul_right _ (pow_le h0)
    rw [← Nat.pow_add] at h1
    exact Nat.le_trans (Nat.pow_le_pow_right (by omega) (by omega)) h1
  · have e1 : (place - last).toNat = 0 := by omega
    rw [e1, Nat.pow_zero, Nat.mul_one, Nat.min_eq_left (by omega), Nat.le_div_iff_mul_le (Nat.two_pow_pos _), ← Nat.pow_add]
    exact Nat.le_trans (Nat.pow_le_pow_right (by omega) (by omega)) (pow_le h0)
/-- a number of a size, told in units of 2 ^ -149 -/
def Bd (x B : Nat) : Prop := ∃ s m p, FloatKind.f32.format.read x = .number s m p ∧ -149 ≤ p ∧ m * 2 ^ (p + 149).toNat ≤ B
theorem Bd.fin {x B : Nat} (h : Bd x B) : finB x = true := by
  obtain ⟨s, m, p, h, _⟩ := h
  exact fin_of h
theorem read_place {x : Nat} {s : Bool} {m : Nat} {p : Int} (h : FloatKind.f32.format.read x = .number s m p) : -149 ≤ p := by
  obtain ⟨a, b, c, d⟩ := fmt32
  unfold Format.read at h
  rw [a, b, c] at h
  dsimp only at h
  split at h
  · injection h with _ _ h3; omega
  · split at h
    · injection h with _ _ h3; omega
    · split at h <;> cases h
theorem nearest_bound (s : Bool) {mag K : Nat} {place : Int} (hp : -149 ≤ place) (hK : K < 512) (h : mag * 2 ^ (place + 149).toNat ≤ K * 2 ^ 153) : Bd (FloatKind.f32.format.nearest s mag place) (K * 2 ^ 153) := by
  obtain ⟨fa, fb, fc, fd⟩ := fmt32
  by_cases h0 : mag = 0
  · subst h0
    refine ⟨s, 0, -149, ?_, Int.le_refl _, by simp⟩
    unfold Format.nearest
    rw [if_pos rfl, read_word _ s (by decide), if_pos (by decide)]
    rfl
  · have hlg : mag.log2 + (place + 149).toNat < 162 := by
      have h1 : 2 ^ mag.log2 * 2 ^ (place + 149).toNat ≤ mag * 2 ^ (place + 149).toNat := Nat.mul_le_mul_right _ (pow_le h0)
      have h2 : K * 2 ^ 153 < 2 ^ 9 * 2 ^ 153 := Nat.mul_lt_mul_of_pos_right (by omega) (Nat.two_pow_pos _)
      rw [← Nat.pow_add] at h1 h2
      exact (Nat.pow_lt_pow_iff_right (by decide)).1 (Nat.lt_of_le_of_lt (Nat.le_trans h1 h) h2)
    obtain ⟨last, hlast⟩ : ∃ last, last = max (place + mag.log2 - 23) (-149) := ⟨_, rfl⟩
    obtain ⟨L, hL⟩ : ∃ L : Nat, last = (L : Int) - 149 := ⟨(last + 149).toNat, by omega⟩
    have hL2 : L ≤ 138 := by omega
    obtain ⟨kept, hk⟩ : ∃ kept, kept = Toward.even.cut s (mag <<< (place - last).toNat) (last - place).toNat := ⟨_, rfl⟩
    have hup : kept ≤ 2 ^ 24 := by rw [hk]; exact kept_le 23 s mag place last h0 (by omega)
    have hbd : kept * 2 ^ L ≤ K * 2 ^ 153 := by
      by_cases hlp : last ≤ place
      · have e1 : (last - place).toNat = 0 := by omega
        have hc : kept ≤ mag * 2 ^ (place - last).toNat := by
          rw [hk, e1, Nat.shiftLeft_eq]
          exact cut_up s (by rw [Nat.pow_zero, Nat.mul_one]; exact Nat.le_refl _)
        refine Nat.le_trans (Nat.mul_le_mul_right _ hc) ?_
        rw [Nat.mul_assoc, ← Nat.pow_add, show (place - last).toNat + L = (place + 149).toNat by omega]
        exact h
      · have e1 : (place - last).toNat = 0 := by omega
        have hc : kept ≤ K * 2 ^ (153 - L) := by
          rw [hk, e1, Nat.shiftLeft_zero]
          refine cut_up s ?_
          rw [Nat.mul_assoc, ← Nat.pow_add]
          refine Nat.le_of_mul_le_mul_right (c := 2 ^ (place + 149).toNat) ?_ (Nat.two_pow_pos _)
          rw [Nat.mul_assoc, ← Nat.pow_add, show 153 - L + (last - place).toNat + (place + 149).toNat = 153 by omega]
          exact h
        refine Nat.le_trans (Nat.mul_le_mul_right _ hc) ?_
        rw [Nat.mul_assoc, ← Nat.pow_add, show 153 - L + L = 153 by omega]
        exact Nat.le_refl _
    have hlow : 0 < L → 2 ^ 23 ≤ kept := fun h => by rw [hk]; exact kept_low 23 s mag place last h0 (by omega)
    have hn : FloatKind.f32.format.nearest s mag place = FloatKind.f32.format.word s (L * 8388608 + kept) := by
      unfold Format.nearest
      rw [if_neg h0]
      dsimp only
      rw [fa, fb, fc, fd, show max (place + (mag.log2 : Int) - ((23 : Nat) : Int)) (-149) = last by omega, ← hk, show (last - -149).toNat = L by omega, Nat.min_eq_left (by omega)]
    rw [hn]
    unfold Bd
    rw [read_word _ s (by have := FloatKind.f32.format.infRung_lt; rw [fb] at this; omega), fa, fb, fc]
    by_cases h1 : L * 8388608 + kept < 8388608
    · rw [if_pos h1]
      obtain rfl : L = 0 := by omega
      refine ⟨_, _, _, rfl, Int.le_refl _, ?_⟩
      simpa using hbd
    · rw [if_neg h1, if_pos (by omega)]
      refine ⟨_, _, _, rfl, by omega, ?_⟩
      refine Nat.le_trans (Nat.le_of_eq ?_) hbd
      have hcase : kept < 16777216 ∨ kept = 16777216 := by omega
      have hk8 : 8388608 ≤ kept := by
        by_cases hL0 : 0 < L
        · exact hlow hL0
        · omega
      rcases hcase with hc | hc
      · have e1 : (L * 8388608 + kept) / 8388608 = L + 1 := by omega
        have e2 : (L * 8388608 + kept) % 8388608 = kept - 8388608 := by omega
        rw [e1, e2, show 8388608 + (kept - 8388608) = kept by omega, show (-149 + ((L + 1 - 1 : Nat) : Int) + 149).toNat = L by omega]
      · have e1 : (L * 8388608 + kept) / 8388608 = L + 2 := by omega
        have e2 : (L * 8388608 + kept) % 8388608 = 0 := by omega
        rw [e1, e2, hc, show (-149 + ((L + 2 - 1 : Nat) : Int) + 149).toNat = L + 1 by omega, Nat.pow_succ]
        omega
theorem bd_add {x y K1 K2 : Nat} (hx : Bd x (K1 * 2 ^ 153)) (hy : Bd y (K2 * 2 ^ 153)) (hK : K1 + K2 < 512) : Bd (fop .add .f32 x y) ((K1 + K2) * 2 ^ 153) := by
  obtain ⟨s, m, p, h1, hp, hm⟩ := hx
  obtain ⟨t, n, q, h2, hq, hn⟩ := hy
  obtain ⟨base, hb⟩ : ∃ base, base = min p q := ⟨_, rfl⟩
  obtain ⟨total, ht⟩ : ∃ total, total = signed s m (p - base).toNat + signed t n (q - base).toNat := ⟨_, rfl⟩
  have he : floatBits .add .f32 x y = some (FloatKind.f32.format.nearest (if total = 0 then s && t else total < 0) total.natAbs base) := by
    unfold floatBits Format.add
    dsimp only
    rw [h1, h2]
    unfold Datum.sum
    dsimp only
    rw [← hb, ← ht]
    rfl
  rw [fop_some he]
  refine nearest_bound _ (by omega) hK ?_
  have h3 : total.natAbs ≤ m * 2 ^ (p - base).toNat + n * 2 ^ (q - base).toNat := by
    rw [ht]
    refine Nat.le_trans (Int.natAbs_add_le _ _) ?_
    rw [signed_abs, signed_abs]
    exact Nat.le_refl _
  refine Nat.le_trans (Nat.mul_le_mul_right _ h3) ?_
  rw [Nat.add_mul, Nat.add_mul, Nat.mul_assoc, Nat.mul_assoc, ← Nat.pow_add, ← Nat.pow_add, show (p - base).toNat + (base + 149).toNat = (p + 149).toNat by omega, show (q - base).toNat + (base + 149).toNat = (q + 149).toNat by omega]
  exact Nat.add_le_add hm hn
theorem bd_sums {l : List Nat} (h : ∀ x ∈ l, Bd x (1 * 2 ^ 153)) (hl : l.length ≤ 256) : ∀ k, k ≤ l.length → Bd (sumF (l.take k)) (k * 2 ^ 153) := by
  intro k
  induction k with
  | zero => intro _; exact ⟨false, 0, -149, by rw [List.take_zero]; decide, Int.le_refl _, by simp⟩
  | succ k ih =>
    intro hk
    rw [sumF_take (by omega)]
    exact bd_add (ih (by omega)) (h _ (List.getElem_mem (by omega))) (by omega)
theorem fits_nar {r : Nat} {E : Int} (h : Fits (FloatKind.f64.format.read r) E) (hE : E < 126) : Nar r ∧ nanF .f32 (nar r) = false := by
  have h2 := fits_enc .f32 (fits_mono h (show E ≤ 126 by omega)) (by decide) (by decide)
  obtain ⟨s, m, p, he, _⟩ := h
  rw [he] at h2
  obtain ⟨h3, h4⟩ := fits_nan h2
  have h5 : floatToFloatBits .f64 r .f32 = some (FloatKind.f32.format.write (.number s m p)) := by
    unfold floatToFloatBits
    rw [if_neg (by decide), show FloatKind.f64.decode r = .number s m p from he]
    dsimp only
    rw [if_neg (by show ¬ (FloatKind.f32.format.read (FloatKind.f32.format.write (.number s m p))).isInfinity = true; rw [h4]; decide)]
    rfl
  refine ⟨.inr ⟨_, h5⟩, ?_⟩
  unfold nar
  rw [h5]
  exact h3
/-- a square root; some NaN where there is none -/
def sqC (x : Nat) : Nat := (FloatKind.f64.format.sqrt x).getD (qnan .f64)
theorem sqC_nan {x : Nat} (h : nanF .f64 x = true) : nanF .f64 (sqC x) = true := by
  obtain ⟨s, t, hd⟩ := read_nan h
  unfold sqC Format.sqrt
  rw [show FloatKind.f64.format.read x = .nan s t from hd]
  exact qnan_nan .f64
theorem sqC_sim {x y : Nat} (h : Sim .f64 x y) : Sim .f64 (sqC x) (sqC y) := by
  rcases h with rfl | ⟨h1, h2⟩
  · exact .refl _ _
  · exact .inr ⟨sqC_nan h1, sqC_nan h2⟩
theorem rootFrom_sq (n : Nat) : ∀ (todo root : Nat), root * root ≤ n → Datum.rootFrom n todo root * Datum.rootFrom n todo root ≤ n := by
  intro todo
  induction todo with
  | zero => intro root h; exact h
  | succ t ih =>
    intro root h
    unfold Datum.rootFrom
    dsimp only
    split
    · rename_i h2; exact ih _ h2
    · exact ih _ h
theorem fits_root {d : Datum} {E : Int} (g : Nat) (h : Fits d E) {r : Datum} (hr : d.root g = some r) : Fits r (E / 2 + 2) := by
  obtain ⟨s, m, i, rfl, h⟩ := h
  unfold Datum.root at hr
  dsimp only at hr
  by_cases hm : m = 0
  · rw [if_pos hm] at hr
    injection hr with hr
    exact ⟨s, m, i, hr.symm, .inl hm⟩
  · rw [if_neg hm] at hr
    cases s
    · rw [if_neg (by decide)] at hr
      injection hr with hr
      obtain ⟨more, hmore⟩ : ∃ more, more = 2 * g - m.log2 + ((i - ((2 * g - m.log2 : Nat) : Int)) % 2).toNat := ⟨_, rfl⟩
      rw [← hmore] at hr
      obtain ⟨whole, hw⟩ : ∃ whole, whole = Datum.rootFrom (m <<< more) ((m <<< more).log2 / 2 + 1) 0 := ⟨_, rfl⟩
      have hsq := rootFrom_sq (m <<< more) ((m <<< more).log2 / 2 + 1) 0 (Nat.zero_le _)
      rw [← hw] at hr hsq
      refine ⟨_, _, _, hr.symm, ?_⟩
      have hs : ∀ b : Bool, b.toNat ≤ 1 := fun b => by cases b <;> simp
      have hb := hs (whole * whole != m <<< more)
      by_cases h0 : 2 * whole + (whole * whole != m <<< more).toNat = 0
      · exact .inl h0
      · right
        have h1 := h.resolve_left hm
        have hlog : (2 * whole + (whole * whole != m <<< more).toNat).log2 < (m.log2 + more) / 2 + 2 := by
          rw [Nat.log2_lt h0]
          have hwl : whole < 2 ^ ((m.log2 + more) / 2 + 1) := by
            apply Classical.byContradiction
            intro hn
            have hn2 : 2 ^ ((m.log2 + more) / 2 + 1) ≤ whole := by omega
            have h3 : 2 ^ ((m.log2 + more) / 2 + 1) * 2 ^ ((m.log2 + more) / 2 + 1) ≤ whole * whole := Nat.mul_le_mul hn2 hn2
            rw [← Nat.pow_add] at h3
            have h4 : m <<< more < 2 ^ (m.log2 + 1 + more) := by
              rw [Nat.shiftLeft_eq, Nat.pow_add]
              exact Nat.mul_lt_mul_of_pos_right lt_pow (Nat.two_pow_pos _)
            have h5 : 2 ^ (m.log2 + 1 + more) ≤ 2 ^ ((m.log2 + more) / 2 + 1 + ((m.log2 + more) / 2 + 1)) := Nat.pow_le_pow_right (by omega) (by omega)
            omega
          rw [Nat.pow_succ]
          omega
        omega
    · rw [if_pos rfl] at hr
      cases hr
/-- the square root of a float32 -/
def rootC (x : Nat) : Nat := nar (sqC (wid x))
theorem rootC_sim {x y : Nat} (h : Sim .f32 x y) : Sim .f32 (rootC x) (rootC y) := nar_sim (sqC_sim (wid_sim h))
theorem inf_wid {x : Nat} {s : Bool} (h : FloatKind.f32.format.read x = .infinity s) : FloatKind.f64.format.read (wid x) = .infinity s := by
  have : floatToFloatBits .f32 x .f64 = some (FloatKind.f64.encode (.infinity s)) := by
    unfold floatToFloatBits
    rw [if_neg (by decide), show FloatKind.f32.decode x = .infinity s from h]
  unfold wid
  rw [this]
  exact inf_read .f64 s
theorem fits_wid {x : Nat} {E : Int} (h : Fits (FloatKind.f32.format.read x) E) (hE : E ≤ 127) : Fits (FloatKind.f64.format.read (wid x)) 129 := by
  have hn := (fits_nan h).1
  have h1 := (wid_num (x := x) hn).1
  have h2 := fits_enc .f64 (fits_mono h (show E ≤ 128 by omega)) (by decide) (by decide)
  obtain ⟨s, m, p, he, _⟩ := h
  unfold floatToFloatBits at h1
  rw [if_neg (by decide), show FloatKind.f32.decode x = .number s m p from he] at h1
  rw [he] at h2
  dsimp only at h1
  split at h1
  · cases h1
  · rw [← Option.some.inj h1]
    exact h2
theorem inf_nar {r : Nat} {s : Bool} (h : FloatKind.f64.format.read r = .infinity s) : Nar r ∧ FloatKind.f32.format.read (nar r) = .infinity s := by
  have : floatToFloatBits .f64 r .f32 = some (FloatKind.f32.encode (.infinity s)) := by
    unfold floatToFloatBits
    rw [if_neg (by decide), show FloatKind.f64.decode r = .infinity s from h]
  refine ⟨.inr ⟨_, this⟩, ?_⟩
  unfold nar
  rw [this]
  exact inf_read .f32 s
theorem root_nar (x : Nat) : Nar (sqC (wid x)) := by
  rcases read_cases .f32 x with h | ⟨s, h⟩ | h
  · exact .inl (sqC_nan (wid_nan h))
  · have hw := inf_wid h
    cases s
    · have : sqC (wid x) = FloatKind.f64.format.write (.infinity false) := by unfold sqC Format.sqrt; rw [hw]; rfl
      exact (inf_nar (s := false) (by rw [this]; exact inf_read .f64 false)).1
    · left
      have : sqC (wid x) = qnan .f64 := by unfold sqC Format.sqrt; rw [hw]; rfl
      rw [this]
      exact qnan_nan .f64
  · have hw := fits_wid h (by decide)
    cases hr : (FloatKind.f64.format.read (wid x)).root (FloatKind.f64.format.fractionBits + 2) with
    | none =>
      left
      have : sqC (wid x) = qnan .f64 := by unfold sqC Format.sqrt; rw [hr]; rfl
      rw [this]
      exact qnan_nan .f64
    | some d =>
      have hd : Fits d 66 := fits_root _ hw hr
      have : sqC (wid x) = FloatKind.f64.format.write d := by unfold sqC Format.sqrt; rw [hr]; rfl
      rw [this]
      exact (fits_nar (fits_enc .f64 hd (by decide) (by decide)) (by decide)).1
end Go.Proofs.Ytbefcfdmaafghaa
