/- Still, Slope, Bound, LogAll -/
import Derived.Test.YtikleaiflmoffaaBa
import Derived.Test.YtikleaiflmoffaaLo
import Derived.StillTailTactics
-- Operations on finite numbers that give no NaN.
namespace Go.Proofs.Ytikleaiflmoffaa
open Ieee Go.RowKit
theorem rung_num (f : Format) (s : Bool) {r : Nat} (h : r ≤ f.infRung) : (f.read (f.word s r)).isNaN = false := by
  rw [read_word f s (Nat.lt_of_le_of_lt h f.infRung_lt)]
  split
  · rfl
  · split
    · rfl
    · rw [if_pos (by omega)]; rfl
theorem nearest_num (f : Format) (s : Bool) (m : Nat) (p : Int) : (f.read (f.nearest s m p)).isNaN = false := by
  unfold Format.nearest
  split
  · exact rung_num f s (Nat.zero_le _)
  · exact rung_num f s (Nat.min_le_right _ _)
theorem write_num (f : Format) {d : Datum} (h : d.isNaN = false) : (f.read (f.write d)).isNaN = false := by
  cases d with
  | nan s t => cases h
  | infinity s => exact rung_num f s (Nat.le_refl _)
  | number s m p => exact nearest_num f s m p
theorem num_read {k : FloatKind} {x : Nat} (h : nanF k x = false) : (∃ s, k.format.read x = .infinity s) ∨ ∃ s m p, k.format.read x = .number s m p := by
  unfold nanF at h
  cases hd : k.format.read x with
  | nan s t => rw [hd] at h; cases h
  | infinity s => exact .inl ⟨s, rfl⟩
  | number s m p => exact .inr ⟨s, m, p, rfl⟩
theorem fin_read {x : Nat} (h : finB x = true) : ∃ s m p, FloatKind.f32.format.read x = .number s m p := by
  rcases num_read (fin_num h) with ⟨s, h1⟩ | h1
  · exfalso
    have : floatBits .sub .f32 x x = none := by
      unfold floatBits
      show Option.map _ _ = none
      rw [h1]
      cases s <;> rfl
    rw [finB_none this] at h
    cases h
  · exact h1
theorem op_some {op : BinOp} {k : FloatKind} {x y : Nat} {d : Datum} (h : floatBits op k x y = some (k.format.write d)) (hd : d.isNaN = false) : floatBits op k x y = some (fop op k x y) ∧ nanF k (fop op k x y) = false := by
  rw [fop_some h]
  exact ⟨h, write_num _ hd⟩
theorem mul_num {x y : Nat} (hx : finB x = true) (hy : finB y = true) : floatBits .mul .f32 x y = some (fop .mul .f32 x y) ∧ nanF .f32 (fop .mul .f32 x y) = false := by
  obtain ⟨s, m, p, h1⟩ := fin_read hx
  obtain ⟨t, n, q, h2⟩ := fin_read hy
  refine op_some (d := .number (s ^^ t) (m * n) (p + q)) ?_ rfl
  unfold floatBits Format.mul
  dsimp only
  rw [h1, h2]
  rfl
theorem sum_num {d e : Datum} (h1 : d.isNaN = false) (h2 : ∃ s m p, e = .number s m p) : ∃ r, d.sum e = some r ∧ r.isNaN = false := by
  obtain ⟨t, n, q, rfl⟩ := h2
  cases d with
  | nan s t => cases h1
  | infinity s => exact ⟨_, rfl, rfl⟩
  | number s m p => exact ⟨_, rfl, rfl⟩
theorem add_num {x y : Nat} (hx : nanF .f32 x = false) (hy : finB y = true) : floatBits .add .f32 x y = some (fop .add .f32 x y) ∧ nanF .f32 (fop .add .f32 x y) = false := by
  obtain ⟨r, h1, h2⟩ := sum_num hx (fin_read hy)
  refine op_some (d := r) ?_ h2
  unfold floatBits Format.add
  dsimp only
  rw [h1]
  rfl
theorem sub_num {x y : Nat} (hx : finB x = true) (hy : nanF .f32 y = false) : floatBits .sub .f32 x y = some (fop .sub .f32 x y) ∧ nanF .f32 (fop .sub .f32 x y) = false := by
  obtain ⟨s, m, p, h1⟩ := fin_read hx
  have key : ∃ r, (FloatKind.f32.format.read x).sum (FloatKind.f32.format.read y).opposite = some r ∧ r.isNaN = false := by
    rw [h1]
    rcases num_read hy with ⟨t, h2⟩ | ⟨t, n, q, h2⟩ <;> rw [h2] <;> exact ⟨_, rfl, rfl⟩
  obtain ⟨r, h2, h3⟩ := key
  refine op_some (d := r) ?_ h3
  unfold floatBits Format.sub
  dsimp only
  rw [h2]
  rfl
theorem run_num {P : Program} {op : BinOp} {k : FloatKind} {x y r : Nat} (h : floatBits op k x y = some r) : ∀ t w, (binOp op t (.float k x) (.float k y)).run P w = .ok (.float k r) w :=
  fun t w => run_float_arith w op t k x y r h
end Go.Proofs.Ytikleaiflmoffaa

-- Slopes of lines through points, both ways.
namespace Go.Proofs.Ytikleaiflmoffaa
open Ieee Go.RowKit
def sqN (xs : List Nat) : List Nat := xs.map fun x => fop .mul .f32 x x
def mulN (xs ys : List Nat) : List Nat := List.zipWith (fop .mul .f32) xs ys
def nOf (xs : List Nat) : Nat := floatOfInt .f32 (xs.length : Int)
def slopeE (xs : List Nat) : Nat := fop .sub .f32 (fop .mul .f32 (nOf xs) (sumF (sqN xs))) (fop .mul .f32 (sumF xs) (sumF xs))
def slopeS (xs ys : List Nat) : Nat := fop .quo .f32 (fop .sub .f32 (fop .mul .f32 (nOf xs) (sumF (mulN xs ys))) (fop .mul .f32 (sumF xs) (sumF ys))) (slopeE xs)
def slopeB (xs ys : List Nat) : Nat := fop .quo .f32 (fop .sub .f32 (sumF ys) (fop .mul .f32 (slopeS xs ys) (sumF xs))) (nOf xs)
/-- no nought -/
def neB (x : Nat) : Bool := !(FloatKind.f32.format.order x 0 == some .eq)
theorem order_sim {k : FloatKind} {x y : Nat} (h : Sim k x y) (z : Nat) : k.format.order x z = k.format.order y z := by
  rcases h with rfl | ⟨h1, h2⟩
  · rfl
  · rw [(order_nan h1 z).1, (order_nan h2 z).1]
theorem he_of {x y : Nat} {b : Bool} (h : Sim .f32 x y) (hb : neB y = b) : (FloatKind.f32.format.order x 0 == some .eq) = !b := by
  unfold neB at hb
  rw [order_sim h, ← hb, Bool.not_not]
theorem neB_sim {x y : Nat} (h : Sim .f32 x y) : neB x = neB y := by unfold neB; rw [order_sim h]
def slopeIn (xs ys : List Nat) : Bool := listB xs && listB ys && (decide (xs.length = ys.length) && decide (2 ≤ xs.length))
def slopeOk (xs ys : List Nat) : Bool := slopeIn xs ys && (neB (slopeE xs) && (finB (slopeS xs ys) && finB (slopeB xs ys)))
/-- a slope and a base, if they are told -/
def GivesS (xs ys : List Nat) (e : Ending) : Prop := ∃ s b, e = .returned (.tuple #[.float .f32 s, .float .f32 b, .bool (slopeOk xs ys)]) ∧ (slopeOk xs ys = true → s = slopeS xs ys ∧ b = slopeB xs ys)
theorem sqN_take {xs : List Nat} {k : Nat} (h : k < xs.length) : sumF (sqN (xs.take (k + 1))) = fop .add .f32 (sumF (sqN (xs.take k))) (fop .mul .f32 xs[k] xs[k]) := by
  rw [List.take_succ_eq_append_getElem h]
  unfold sqN
  rw [List.map_append]
  exact sumF_snoc _ _
theorem mulN_take {xs ys : List Nat} {k : Nat} (h : k < xs.length) (h' : k < ys.length) : sumF (mulN (xs.take (k + 1)) (ys.take (k + 1))) = fop .add .f32 (sumF (mulN (xs.take k) (ys.take k))) (fop .mul .f32 xs[k] ys[k]) := by
  rw [List.take_succ_eq_append_getElem h, List.take_succ_eq_append_getElem h']
  unfold mulN
  rw [List.zipWith_append (by rw [List.length_take, List.length_take]; omega)]
  exact sumF_snoc _ _
theorem drw_refl (w : World) : ∃ m, w = w.drewN m := ⟨0, rfl⟩
theorem drw_mk (w : World) (m : Nat) : ∃ k, w.drewN m = w.drewN k := ⟨m, rfl⟩
theorem drw_trans {a b c : World} (h : ∃ m, b = a.drewN m) (h' : ∃ m, c = b.drewN m) : ∃ m, c = a.drewN m := by
  obtain ⟨m, rfl⟩ := h
  obtain ⟨k, rfl⟩ := h'
  exact ⟨_, World.drewN_drewN ..⟩
theorem drw_drew {a b : World} (h : ∃ m, b = a.drewN m) : ∃ m, b.drew = a.drewN m := drw_trans h ⟨1, rfl⟩
theorem cell_drw {a b : World} {p : Addr} {v : Value} (h : ∃ m, b = a.drewN m) (hc : a.cell? p = some v) : b.cell? p = some v := by
  obtain ⟨m, rfl⟩ := h
  exact hc
end Go.Proofs.Ytikleaiflmoffaa

-- Sums of numbers that are not too great are finite; what a finite result tells of the operands.
namespace Go.Proofs.Ytikleaiflmoffaa
open Ieee Go.RowKit
theorem fin_of {x : Nat} {s : Bool} {m : Nat} {p : Int} (h : FloatKind.f32.format.read x = .number s m p) : finB x = true := by
  have h1 : floatBits .sub .f32 x x = some (FloatKind.f32.format.nearest false 0 p) := by
    unfold floatBits Format.sub
    dsimp only
    rw [h]
    unfold Datum.opposite Datum.sum
    dsimp only
    have ht : signed s m (p - min p p).toNat + signed (!s) m (p - min p p).toNat = 0 := by
      unfold signed
      cases s <;> simp <;> omega
    rw [ht, if_pos rfl, show (s && !s) = false by cases s <;> rfl, Int.min_self]
    rfl
  rw [finB_some h1]
  unfold Format.nearest
  rw [if_pos rfl]
  rfl
theorem not_fin_inf {x : Nat} {s : Bool} (h : FloatKind.f32.format.read x = .infinity s) : finB x = false := by
  cases hf : finB x
  · rfl
  · obtain ⟨t, m, p, h1⟩ := fin_read hf
    rw [h] at h1; cases h1
theorem write_inf (s : Bool) : finB (FloatKind.f32.format.write (.infinity s)) = false := not_fin_inf (inf_read .f32 s)
theorem cut_up (neg : Bool) {n N d : Nat} (h : n ≤ N * 2 ^ d) : Toward.even.cut neg n d ≤ N := by
  unfold Toward.cut
  simp only [Nat.one_shiftLeft]
  have hb : ∀ b : Bool, b.toNat ≤ 1 := fun b => by cases b <;> simp
  by_cases hd : d ≤ n.log2 + 2
  · rw [Nat.min_eq_left hd]
    by_cases he : n = N * 2 ^ d
    · have h1 : n / 2 ^ d = N := by rw [he, Nat.mul_div_cancel _ (Nat.two_pow_pos _)]
      have h2 : n % 2 ^ d = 0 := by rw [he, Nat.mul_mod_left]
      have h3 := Nat.two_pow_pos d
      rw [h1, h2, show decide (2 ^ d < 2 * 0) = false by simp, show (2 ^ d == 2 * 0) = false by simp]
      simp
    · have h1 : n / 2 ^ d < N := by rw [Nat.div_lt_iff_lt_mul (Nat.two_pow_pos _)]; omega
      exact Nat.le_trans (Nat.add_le_add_left (hb _) _) h1
  · rw [Nat.min_eq_right (by omega)]
    have h0 : n < 2 ^ (n.log2 + 1) := Nat.lt_log2_self
    have h4 : 2 ^ (n.log2 + 2) = 2 * 2 ^ (n.log2 + 1) := by rw [Nat.pow_succ, Nat.mul_comm]
    have h1 : n / 2 ^ (n.log2 + 2) = 0 := Nat.div_eq_of_lt (by omega)
    have h2 : n % 2 ^ (n.log2 + 2) = n := Nat.mod_eq_of_lt (by omega)
    rw [h1, h2, show decide (2 ^ (n.log2 + 2) < 2 * n) = false by rw [decide_eq_false_iff_not]; omega, show (2 ^ (n.log2 + 2) == 2 * n) = false by rw [beq_eq_false_iff_ne]; omega]
    simp
theorem kept_low (fb : Nat) (neg : Bool) (mag : Nat) (place last : Int) (h0 : mag ≠ 0) (hl : last = place + mag.log2 - fb) : 2 ^ fb ≤ Toward.even.cut neg (mag <<< (place - last).toNat) (last - place).toNat := by
  unfold Toward.cut
  simp only [Nat.one_shiftLeft]
  refine Nat.le_trans ?_ (Nat.le_add_right _ _)
  rw [Nat.shiftLeft_eq]
  by_cases h : last ≤ place
  · have e1 : (last - place).toNat = 0 := by omega
    rw [e1, Nat.zero_min, Nat.pow_zero, Nat.div_one]
    have h1 : 2 ^ mag.log2 * 2 ^ (place - last).toNat ≤ mag * 2 ^ (place - last).toNat := Nat.mul_le_mul_right _ (pow_le h0)
    rw [← Nat.pow_add] at h1
    exact Nat.le_trans (Nat.pow_le_pow_right (by omega) (by omega)) h1
  · have e1 : (place - last).toNat = 0 := by omega
    rw [e1, Nat.pow_zero, Nat.mul_one, Nat.min_eq_left (by omega), Nat.le_div_iff_mul_le (Nat.two_pow_pos _), ← Nat.pow_add]
    exact Nat.le_trans (Nat.pow_le_pow_right (by omega) (by omega)) (pow_le h0)
/-- a number of a size, told in units of 2 ^ -149 -/
def Bd (x B : Nat) : Prop := ∃ s m p, FloatKind.f32.format.read x = .number s m p ∧ -149 ≤ p ∧ m * 2 ^ (p + 149).toNat ≤ B
theorem Bd.fin {x B : Nat} (h : Bd x B) : finB x = true := by
  obtain ⟨s, m, p, h, _⟩ := h
  exact fin_of h
theorem read_place {x : Nat} {s : Bool} {m : Nat} {p : Int} (h : FloatKind.f32.format.read x = .number s m p) : -149 ≤ p := by
  obtain ⟨a, b, c, d⟩ := fmt32
  unfold Format.read at h
  rw [a, b, c] at h
  dsimp only at h
  split at h
  · injection h with _ _ h3; omega
  · split at h
    · injection h with _ _ h3; omega
    · split at h <;> cases h
theorem nearest_bound (s : Bool) {mag K : Nat} {place : Int} (hp : -149 ≤ place) (hK : K < 512) (h : mag * 2 ^ (place + 149).toNat ≤ K * 2 ^ 213) : Bd (FloatKind.f32.format.nearest s mag place) (K * 2 ^ 213) := by
  obtain ⟨fa, fb, fc, fd⟩ := fmt32
  by_cases h0 : mag = 0
  · subst h0
    refine ⟨s, 0, -149, ?_, Int.le_refl _, by simp⟩
    unfold Format.nearest
    rw [if_pos rfl, read_word _ s (by decide), if_pos (by decide)]
    rfl
  · have hlg : mag.log2 + (place + 149).toNat < 222 := by
      have h1 : 2 ^ mag.log2 * 2 ^ (place + 149).toNat ≤ mag * 2 ^ (place + 149).toNat := Nat.mul_le_mul_right _ (pow_le h0)
      have h2 : K * 2 ^ 213 < 2 ^ 9 * 2 ^ 213 := Nat.mul_lt_mul_of_pos_right (by omega) (Nat.two_pow_pos _)
      rw [← Nat.pow_add] at h1 h2
      exact (Nat.pow_lt_pow_iff_right (by decide)).1 (Nat.lt_of_le_of_lt (Nat.le_trans h1 h) h2)
    obtain ⟨last, hlast⟩ : ∃ last, last = max (place + mag.log2 - 23) (-149) := ⟨_, rfl⟩
    obtain ⟨L, hL⟩ : ∃ L : Nat, last = (L : Int) - 149 := ⟨(last + 149).toNat, by omega⟩
    have hL2 : L ≤ 198 := by omega
    obtain ⟨kept, hk⟩ : ∃ kept, kept = Toward.even.cut s (mag <<< (place - last).toNat) (last - place).toNat := ⟨_, rfl⟩
    have hup : kept ≤ 2 ^ 24 := by rw [hk]; exact kept_le 23 s mag place last h0 (by omega)
    have hbd : kept * 2 ^ L ≤ K * 2 ^ 213 := by
      by_cases hlp : last ≤ place
      · have e1 : (last - place).toNat = 0 := by omega
        have hc : kept ≤ mag * 2 ^ (place - last).toNat := by
          rw [hk, e1, Nat.shiftLeft_eq]
          exact cut_up s (by rw [Nat.pow_zero, Nat.mul_one]; exact Nat.le_refl _)
        refine Nat.le_trans (Nat.mul_le_mul_right _ hc) ?_
        rw [Nat.mul_assoc, ← Nat.pow_add, show (place - last).toNat + L = (place + 149).toNat by omega]
        exact h
      · have e1 : (place - last).toNat = 0 := by omega
        have hc : kept ≤ K * 2 ^ (213 - L) := by
          rw [hk, e1, Nat.shiftLeft_zero]
          refine cut_up s ?_
          rw [Nat.mul_assoc, ← Nat.pow_add]
          refine Nat.le_of_mul_le_mul_right (c := 2 ^ (place + 149).toNat) ?_ (Nat.two_pow_pos _)
          rw [Nat.mul_assoc, ← Nat.pow_add, show 213 - L + (last - place).toNat + (place + 149).toNat = 213 by omega]
          exact h
        refine Nat.le_trans (Nat.mul_le_mul_right _ hc) ?_
        rw [Nat.mul_assoc, ← Nat.pow_add, show 213 - L + L = 213 by omega]
        exact Nat.le_refl _
    have hlow : 0 < L → 2 ^ 23 ≤ kept := fun h => by rw [hk]; exact kept_low 23 s mag place last h0 (by omega)
    have hn : FloatKind.f32.format.nearest s mag place = FloatKind.f32.format.word s (L * 8388608 + kept) := by
      unfold Format.nearest
      rw [if_neg h0]
      dsimp only
      rw [fa, fb, fc, fd, show max (place + (mag.log2 : Int) - ((23 : Nat) : Int)) (-149) = last by omega, ← hk, show (last - -149).toNat = L by omega, Nat.min_eq_left (by omega)]
    rw [hn]
    unfold Bd
    rw [read_word _ s (by have := FloatKind.f32.format.infRung_lt; rw [fb] at this; omega), fa, fb, fc]
    by_cases h1 : L * 8388608 + kept < 8388608
    · rw [if_pos h1]
      obtain rfl : L = 0 := by omega
      refine ⟨_, _, _, rfl, Int.le_refl _, ?_⟩
      simpa using hbd
    · rw [if_neg h1, if_pos (by omega)]
      refine ⟨_, _, _, rfl, by omega, ?_⟩
      refine Nat.le_trans (Nat.le_of_eq ?_) hbd
      have hcase : kept < 16777216 ∨ kept = 16777216 := by omega
      have hk8 : 8388608 ≤ kept := by
        by_cases hL0 : 0 < L
        · exact hlow hL0
        · omega
      rcases hcase with hc | hc
      · have e1 : (L * 8388608 + kept) / 8388608 = L + 1 := by omega
        have e2 : (L * 8388608 + kept) % 8388608 = kept - 8388608 := by omega
        rw [e1, e2, show 8388608 + (kept - 8388608) = kept by omega, show (-149 + ((L + 1 - 1 : Nat) : Int) + 149).toNat = L by omega]
      · have e1 : (L * 8388608 + kept) / 8388608 = L + 2 := by omega
        have e2 : (L * 8388608 + kept) % 8388608 = 0 := by omega
        rw [e1, e2, hc, show (-149 + ((L + 2 - 1 : Nat) : Int) + 149).toNat = L + 1 by omega, Nat.pow_succ]
        omega
theorem bd_add {x y K1 K2 : Nat} (hx : Bd x (K1 * 2 ^ 213)) (hy : Bd y (K2 * 2 ^ 213)) (hK : K1 + K2 < 512) : Bd (fop .add .f32 x y) ((K1 + K2) * 2 ^ 213) := by
  obtain ⟨s, m, p, h1, hp, hm⟩ := hx
  obtain ⟨t, n, q, h2, hq, hn⟩ := hy
  obtain ⟨base, hb⟩ : ∃ base, base = min p q := ⟨_, rfl⟩
  obtain ⟨total, ht⟩ : ∃ total, total = signed s m (p - base).toNat + signed t n (q - base).toNat := ⟨_, rfl⟩
  have he : floatBits .add .f32 x y = some (FloatKind.f32.format.nearest (if total = 0 then s && t else total < 0) total.natAbs base) := by
    unfold floatBits Format.add
    dsimp only
    rw [h1, h2]
    unfold Datum.sum
    dsimp only
    rw [← hb, ← ht]
    rfl
  rw [fop_some he]
  refine nearest_bound _ (by omega) hK ?_
  have h3 : total.natAbs ≤ m * 2 ^ (p - base).toNat + n * 2 ^ (q - base).toNat := by
    rw [ht]
    refine Nat.le_trans (Int.natAbs_add_le _ _) ?_
    rw [signed_abs, signed_abs]
    exact Nat.le_refl _
  refine Nat.le_trans (Nat.mul_le_mul_right _ h3) ?_
  rw [Nat.add_mul, Nat.add_mul, Nat.mul_assoc, Nat.mul_assoc, ← Nat.pow_add, ← Nat.pow_add, show (p - base).toNat + (base + 149).toNat = (p + 149).toNat by omega, show (q - base).toNat + (base + 149).toNat = (q + 149).toNat by omega]
  exact Nat.add_le_add hm hn
theorem nearest_inf (s : Bool) {mag : Nat} {place : Int} (h0 : mag ≠ 0) (h : 128 ≤ place + mag.log2) : FloatKind.f32.format.read (FloatKind.f32.format.nearest s mag place) = .infinity s := by
  obtain ⟨fa, fb, fc, fd⟩ := fmt32
  have hk := kept_low 23 s mag place (place + mag.log2 - 23) h0 (by omega)
  have hn : FloatKind.f32.format.nearest s mag place = FloatKind.f32.format.word s FloatKind.f32.format.infRung := by
    unfold Format.nearest
    rw [if_neg h0]
    dsimp only
    rw [fa, fc, fd, show max (place + (mag.log2 : Int) - ((23 : Nat) : Int)) (-149) = place + mag.log2 - 23 by omega]
    rw [Nat.min_eq_right]
    rw [fb]
    have : 254 ≤ (place + (mag.log2 : Int) - 23 - -149).toNat := by omega
    omega
  rw [hn, inf_read]
theorem bd_of_sq {x : Nat} (hx : finB x = true) (h : finB (fop .mul .f32 x x) = true) : Bd x (1 * 2 ^ 213) := by
  obtain ⟨s, m, p, h1⟩ := fin_read hx
  have hp := read_place h1
  refine ⟨s, m, p, h1, hp, ?_⟩
  by_cases h0 : m = 0
  · subst h0; simp
  · have he : floatBits .mul .f32 x x = some (FloatKind.f32.format.nearest (s ^^ s) (m * m) (p + p)) := by
      unfold floatBits Format.mul
      dsimp only
      rw [h1]
      rfl
    rw [fop_some he] at h
    have hl : p + m.log2 < 64 := by
      refine Decidable.byContradiction fun hc => ?_
      have hm2 : m * m ≠ 0 := Nat.mul_ne_zero h0 h0
      have h2 : 2 * m.log2 ≤ (m * m).log2 := by
        rw [Nat.le_log2 hm2, Nat.two_mul, Nat.pow_add]
        exact Nat.mul_le_mul (pow_le h0) (pow_le h0)
      have := not_fin_inf (nearest_inf (s ^^ s) hm2 (place := p + p) (by omega))
      rw [this] at h
      cases h
    have h3 : m * 2 ^ (p + 149).toNat < 2 ^ (m.log2 + 1) * 2 ^ (p + 149).toNat := Nat.mul_lt_mul_of_pos_right lt_pow (Nat.two_pow_pos _)
    rw [← Nat.pow_add] at h3
    rw [Nat.one_mul]
    exact Nat.le_trans (Nat.le_of_lt h3) (Nat.pow_le_pow_right (by omega) (by omega))
theorem fin_add {x y : Nat} (h : finB (fop .add .f32 x y) = true) : finB x = true ∧ finB y = true := by
  have hn : nanF .f32 x = false ∧ nanF .f32 y = false := by
    constructor
    · cases hq : nanF .f32 x
      · rfl
      · rw [finB_nan (fop_nan arith_add (.inl hq))] at h; cases h
    · cases hq : nanF .f32 y
      · rfl
      · rw [finB_nan (fop_nan arith_add (.inr hq))] at h; cases h
  have key : ∀ d, (FloatKind.f32.format.read x).sum (FloatKind.f32.format.read y) = d → (d = none ∨ ∃ s, d = some (.infinity s)) → False := by
    intro d hd hc
    have he : floatBits .add .f32 x y = d.map FloatKind.f32.format.write := by
      unfold floatBits Format.add
      dsimp only
      rw [hd]
    rcases hc with rfl | ⟨s, rfl⟩
    · have : nanF .f32 (fop .add .f32 x y) = true := by unfold fop; rw [he]; exact qnan_nan .f32
      rw [finB_nan this] at h; cases h
    · rw [fop_some he, write_inf] at h; cases h
  rcases num_read hn.1 with ⟨s, h1⟩ | ⟨s, m, p, h1⟩
  · exfalso
    rcases num_read hn.2 with ⟨t, h2⟩ | ⟨t, n, q, h2⟩
    · refine key _ (by rw [h1, h2]) ?_
      unfold Datum.sum
      dsimp only
      split
      · exact .inr ⟨_, rfl⟩
      · exact .inl rfl
    · exact key (some (.infinity s)) (by rw [h1, h2]; rfl) (.inr ⟨_, rfl⟩)
  · rcases num_read hn.2 with ⟨t, h2⟩ | ⟨t, n, q, h2⟩
    · exact (key (some (.infinity t)) (by rw [h1, h2]; rfl) (.inr ⟨_, rfl⟩)).elim
    · exact ⟨fin_of h1, fin_of h2⟩
theorem fin_quo {x y : Nat} (hy : finB y = true) (h : finB (fop .quo .f32 x y) = true) : finB x = true := by
  have hn : nanF .f32 x = false := by
    cases hq : nanF .f32 x
    · rfl
    · rw [finB_nan (fop_nan arith_quo (.inl hq))] at h; cases h
  obtain ⟨t, n, q, h2⟩ := fin_read hy
  rcases num_read hn with ⟨s, h1⟩ | ⟨s, m, p, h1⟩
  · exfalso
    have he : floatBits .quo .f32 x y = some (FloatKind.f32.format.write (.infinity (s ^^ t))) := by
      unfold floatBits Format.div
      dsimp only
      rw [h1, h2]
      rfl
    rw [fop_some he, write_inf] at h
    cases h
  · exact fin_of h1
theorem fin_root {x : Nat} (h : finB (rootC x) = true) : finB x = true := by
  cases hn : nanF .f32 x
  · rcases num_read hn with ⟨s, h1⟩ | ⟨s, m, p, h1⟩
    · exfalso
      have hw := inf_wid h1
      cases s
      · have : sqC (wid x) = FloatKind.f64.format.write (.infinity false) := by unfold sqC Format.sqrt; rw [hw]; rfl
        unfold rootC at h
        rw [not_fin_inf (inf_nar (s := false) (by rw [this]; exact inf_read .f64 false)).2] at h
        cases h
      · have : sqC (wid x) = qnan .f64 := by unfold sqC Format.sqrt; rw [hw]; rfl
        unfold rootC at h
        rw [this, finB_nan (nar_nan (qnan_nan .f64))] at h
        cases h
    · exact fin_of h1
  · unfold rootC at h
    rw [finB_nan (nar_nan (sqC_nan (wid_nan hn)))] at h
    cases h
theorem fin_sum {l : List Nat} (h : finB (sumF l) = true) : ∀ x ∈ l, finB x = true := by
  have key : ∀ k (l : List Nat), l.length = k → finB (sumF l) = true → ∀ x ∈ l, finB x = true := by
    intro k
    induction k with
    | zero => intro l hl _ x hx; rw [List.eq_nil_of_length_eq_zero hl] at hx; cases hx
    | succ k ih =>
      intro l hl h x hx
      have hc : l = l.take k ++ [l[k]'(by omega)] := by rw [← List.take_succ_eq_append_getElem (by omega), List.take_of_length_le (by omega)]
      rw [hc, sumF_snoc] at h
      obtain ⟨h1, h2⟩ := fin_add h
      rw [hc] at hx
      rcases List.mem_append.1 hx with hx | hx
      · exact ih _ (by rw [List.length_take]; omega) h1 x hx
      · simp at hx; rw [hx]; exact h2
  exact key _ l rfl h
theorem bd_sums {l : List Nat} (h : ∀ x ∈ l, Bd x (1 * 2 ^ 213)) (hl : l.length ≤ 256) : ∀ k, k ≤ l.length → Bd (sumF (l.take k)) (k * 2 ^ 213) := by
  intro k
  induction k with
  | zero => intro _; exact ⟨false, 0, -149, by rw [List.take_zero]; decide, Int.le_refl _, by simp⟩
  | succ k ih =>
    intro hk
    rw [sumF_take (by omega)]
    exact bd_add (ih (by omega)) (h _ (List.getElem_mem (by omega))) (by omega)
end Go.Proofs.Ytikleaiflmoffaa

-- Logarithms of whatever float32, both ways.
namespace Go.Proofs.Ytikleaiflmoffaa
open Ieee Go.RowKit
/-- the logarithm of a float32, told for all -/
def logX (c : Nat) : Nat :=
  if nanF .f32 c = true then qnan .f32
  else if FloatKind.f32.format.order c 0 = some .eq then 4286578688
  else if FloatKind.f32.format.order c 0 = some .lt then qnan .f32
  else if finB c = true then logC c else 2139095040
/-- a number, a NaN, or an infinity as it is written -/
def Good (c : Nat) : Prop := nanF .f32 c = true ∨ finB c = true ∨ c = 2139095040 ∨ c = 4286578688
theorem logX_pos {c : Nat} (hf : finB c = true) (ho : FloatKind.f32.format.order c 0 = some .gt) : logX c = logC c := by
  unfold logX
  rw [if_neg (by rw [fin_num hf]; decide), ho, if_neg (by decide), if_neg (by decide), if_pos hf]
theorem good_inf {c : Nat} (h : Good c) (hn : nanF .f32 c = false) (hf : finB c = false) (ho : FloatKind.f32.format.order c 0 = some .gt) : c = 2139095040 := by
  rcases h with h | h | h | h
  · rw [hn] at h; cases h
  · rw [hf] at h; cases h
  · exact h
  · subst h
    have : FloatKind.f32.format.order 4286578688 0 = some .lt := by decide
    rw [this] at ho; cases ho
theorem good_word (s : Bool) {r : Nat} (h : r ≤ 2139095040) : Good (FloatKind.f32.format.word s r) := by
  obtain ⟨a, b, c, d⟩ := fmt32
  by_cases hr : r = 2139095040
  · subst hr
    cases s
    · exact .inr (.inr (.inl (by decide)))
    · exact .inr (.inr (.inr (by decide)))
  · right; left
    have hrd := read_word FloatKind.f32.format s (r := r) (by have := FloatKind.f32.format.infRung_lt; rw [b] at this; omega)
    rw [a, b, c] at hrd
    split at hrd
    · exact fin_of hrd
    · rw [if_pos (by omega)] at hrd
      exact fin_of hrd
theorem good_write {d : Datum} (h : d.isNaN = false) : Good (FloatKind.f32.format.write d) := by
  obtain ⟨a, b, c, e⟩ := fmt32
  cases d with
  | nan s t => cases h
  | infinity s => exact good_word s (by rw [b]; exact Nat.le_refl _)
  | number s m p =>
    show Good (FloatKind.f32.format.nearest s m p)
    unfold Format.nearest
    split
    · exact good_word s (Nat.zero_le _)
    · exact good_word s (by rw [← b]; exact Nat.min_le_right _ _)
theorem good_int (z : Int) : Good (floatOfInt .f32 z) := good_write (d := .number (decide (z < 0)) z.natAbs 0) rfl
theorem good_quo (x y : Nat) : Good (fop .quo .f32 x y) := by
  cases h : floatBits .quo .f32 x y with
  | none => left; unfold fop; rw [h]; exact qnan_nan .f32
  | some r =>
    rw [fop_some h]
    unfold floatBits Format.div at h
    dsimp only at h
    cases hd : (FloatKind.f32.format.read x).quotient (FloatKind.f32.format.fractionBits + 2) (FloatKind.f32.format.read y) with
    | none => rw [hd] at h; cases h
    | some d =>
      rw [hd] at h
      rw [← Option.some.inj h]
      refine good_write ?_
      cases h1 : FloatKind.f32.format.read x <;> cases h2 : FloatKind.f32.format.read y <;> rw [h1, h2] at hd <;> unfold Datum.quotient at hd <;> dsimp only at hd
      all_goals first
        | (cases hd; rfl)
        | (split at hd <;> first | (cases hd; rfl) | (split at hd <;> cases hd; rfl))
        | cases hd
theorem nan_f64 : nanF .f64 9221120237041090561 = true := by decide
theorem Nar.nan {x : Nat} (h : nanF .f64 x = true) : Nar x := .inl h
theorem ninf_nar : floatToFloatBits .f64 18442240474082181120 .f32 = some 4286578688 := by decide +kernel
/-- how a number stands to nought -/
theorem order_sign (k : FloatKind) {x : Nat} {s : Bool} {m : Nat} {p : Int} (h : k.format.read x = .number s m p) : k.format.order x 0 = some (if m = 0 then .eq else if s = true then .lt else .gt) := by
  obtain ⟨q, h0⟩ : ∃ q, k.format.read 0 = .number false 0 q := by cases k <;> exact ⟨_, rfl⟩
  unfold Format.order
  rw [h, h0]
  unfold Datum.order
  dsimp only
  have hz : signed false 0 (q - min p q).toNat = 0 := by unfold signed; simp
  rw [hz]
  congr 1
  by_cases hm : m = 0
  · rw [if_pos hm]; subst hm
    unfold signed
    cases s <;> simp
  · rw [if_neg hm]
    have hp : 0 < m <<< (p - min p q).toNat := by rw [Nat.shiftLeft_eq]; exact Nat.mul_pos (Nat.pos_of_ne_zero hm) (Nat.two_pow_pos _)
    unfold signed
    cases s
    · rw [if_neg (by decide), if_neg (by decide), Int.compare_eq_gt]; omega
    · rw [if_pos rfl, if_pos rfl, Int.compare_eq_lt]; omega
theorem order_inf (k : FloatKind) {x : Nat} {s : Bool} (h : k.format.read x = .infinity s) : k.format.order x 0 = some (if s = true then .lt else .gt) := by
  obtain ⟨q, h0⟩ : ∃ q, k.format.read 0 = .number false 0 q := by cases k <;> exact ⟨_, rfl⟩
  unfold Format.order
  rw [h, h0]
  rfl
/-- a float32 stands to nought as its float64 does -/
theorem wid_order {x : Nat} (h : nanF .f32 x = false) : FloatKind.f64.format.order (wid x) 0 = FloatKind.f32.format.order x 0 := by
  rcases num_read h with ⟨s, h1⟩ | ⟨s, m, p, h1⟩
  · rw [order_inf .f64 (inf_wid h1), order_inf .f32 h1]
  · obtain ⟨hw, hnn⟩ := wid_num h
    have hp := read_place h1
    have hfit : m = 0 ∨ p + m.log2 ≤ 127 := by
      rcases read_cases .f32 x with h2 | ⟨t, h2⟩ | ⟨t, n, q, h2, h3⟩
      · rw [h1] at h2; cases h2
      · rw [h1] at h2; cases h2
      · rw [h1] at h2; injection h2 with _ e2 e3; subst e2 e3; exact h3
    have he : wid x = FloatKind.f64.format.nearest s m p := by
      unfold floatToFloatBits at hw
      rw [if_neg (by decide), show FloatKind.f32.decode x = .number s m p from h1] at hw
      dsimp only at hw
      split at hw
      · cases hw
      · exact (Option.some.inj hw).symm
    rw [order_sign .f32 h1, he]
    by_cases hm : m = 0
    · subst hm
      have : FloatKind.f64.format.read (FloatKind.f64.format.nearest s 0 p) = .number s 0 (-1074) := by
        unfold Format.nearest
        rw [if_pos rfl, read_word _ s (by decide), if_pos (by decide)]
        rfl
      rw [order_sign .f64 this]
    · obtain ⟨a, b, c, d⟩ := fmt64
      obtain ⟨n, q, h3, h4, _⟩ := nearest_low FloatKind.f64.format s m p hm (by rw [c, d]; omega) (by rw [a, b, c, d]; omega)
      rw [order_sign .f64 h3, if_neg h4, if_neg hm]
end Go.Proofs.Ytikleaiflmoffaa
