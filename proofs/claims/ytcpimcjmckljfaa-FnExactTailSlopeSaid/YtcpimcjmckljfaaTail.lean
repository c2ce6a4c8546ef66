/- Quotients and sums of logarithms that are no NaN. -/
import Derived.Test.YtcpimcjmckljfaaLogAll
import Derived.Test.YtcpimcjmckljfaaGapsS
namespace Go.Proofs.Ytcpimcjmckljfaa
open Ieee Go.RowKit
theorem word_pos' {r : Nat} (hr1 : 8388608 ≤ r) (hr2 : r ≤ 2139095040) : FloatKind.f32.format.order (FloatKind.f32.format.word false r) 0 = some .gt := by
  obtain ⟨fa, fb, fc, fd⟩ := fmt32
  have hs : r < FloatKind.f32.format.signWeight := by
    have := FloatKind.f32.format.infRung_lt
    rw [fb] at this
    omega
  have hrd := read_word FloatKind.f32.format false hs
  rw [fa, fb, fc, if_neg (by omega)] at hrd
  by_cases hc : r < 2139095040
  · rw [if_pos hc] at hrd
    rw [order_sign .f32 hrd, if_neg (by omega), if_neg (by decide)]
  · rw [if_neg hc, if_pos (by omega)] at hrd
    rw [order_inf .f32 hrd]
    rfl
theorem nearest_pos {mag : Nat} {place : Int} (h0 : mag ≠ 0) (h : -126 ≤ place + mag.log2) : FloatKind.f32.format.order (FloatKind.f32.format.nearest false mag place) 0 = some .gt := by
  obtain ⟨fa, fb, fc, fd⟩ := fmt32
  obtain ⟨last, hlast⟩ : ∃ last, last = max (place + mag.log2 - 23) (-149) := ⟨_, rfl⟩
  have hl2 : last = place + mag.log2 - 23 := by omega
  have hk := kept_low 23 false mag place last h0 hl2
  obtain ⟨kept, hkept⟩ : ∃ kept, kept = Toward.even.cut false (mag <<< (place - last).toNat) (last - place).toNat := ⟨_, rfl⟩
  rw [← hkept] at hk
  have hk8 : 8388608 ≤ kept := hk
  clear hk
  obtain ⟨L, hL⟩ : ∃ L, L = (last - -149).toNat := ⟨_, rfl⟩
  obtain ⟨r, hr⟩ : ∃ r, r = min (L * 8388608 + kept) 2139095040 := ⟨_, rfl⟩
  have hn : FloatKind.f32.format.nearest false mag place = FloatKind.f32.format.word false r := by
    unfold Format.nearest
    rw [if_neg h0]
    dsimp only
    rw [fa, fb, fc, fd, show max (place + (mag.log2 : Int) - ((23 : Nat) : Int)) (-149) = last by omega, ← hkept, ← hL, ← hr]
  have hr1 : 8388608 ≤ r := by rw [hr]; exact Nat.le_min.2 ⟨Nat.le_trans hk8 (Nat.le_add_left _ _), by decide⟩
  have hr2 : r ≤ 2139095040 := by rw [hr]; exact Nat.min_le_right _ _
  rw [hn]
  exact word_pos' hr1 hr2
theorem key_log {m n : Nat} {i j : Int} (_hm : m ≠ 0) (hn : n ≠ 0) (hi : -149 ≤ i) (hj : -149 ≤ j) (h : n * 2 ^ (j + 149).toNat ≤ m * 2 ^ (i + 149).toNat) : j + n.log2 ≤ i + m.log2 := by
  have h1 : 2 ^ (n.log2 + (j + 149).toNat) ≤ n * 2 ^ (j + 149).toNat := by rw [Nat.pow_add]; exact Nat.mul_le_mul_right _ (pow_le hn)
  have h2 : m * 2 ^ (i + 149).toNat < 2 ^ (m.log2 + 1 + (i + 149).toNat) := by rw [Nat.pow_add]; exact Nat.mul_lt_mul_of_pos_right lt_pow (Nat.two_pow_pos _)
  have h3 := (Nat.pow_lt_pow_iff_right (a := 2) (by decide)).1 (Nat.lt_of_le_of_lt (Nat.le_trans h1 h) h2)
  omega
theorem quo_pos {x y : Nat} (hx : finB x = true) (hy : finB y = true) (gx : gtB x = true) (gy : gtB y = true) (hk : keyF y ≤ keyF x) :
    floatBits .quo .f32 x y = some (fop .quo .f32 x y) ∧ FloatKind.f32.format.order (fop .quo .f32 x y) 0 = some .gt := by
  obtain ⟨s, m, i, h1⟩ := fin_read hx
  obtain ⟨t, n, j, h2⟩ := fin_read hy
  obtain ⟨rfl, hm⟩ := order_num .f32 h1 (gtB_t gx)
  obtain ⟨rfl, hn⟩ := order_num .f32 h2 (gtB_t gy)
  have hi := read_place h1
  have hj := read_place h2
  have hkk : n * 2 ^ (j + 149).toNat ≤ m * 2 ^ (i + 149).toNat := by
    unfold keyF at hk
    rw [h1, h2] at hk
    dsimp only at hk
    unfold signed at hk
    rw [if_neg (by decide), if_neg (by decide), Nat.shiftLeft_eq, Nat.shiftLeft_eq] at hk
    exact_mod_cast hk
  have hlog := key_log hm hn hi hj hkk
  obtain ⟨more, hmore⟩ : ∃ more, more = 23 + 2 + n.log2 - m.log2 := ⟨_, rfl⟩
  obtain ⟨mag, hmag⟩ : ∃ mag, mag = 2 * ((m <<< more) / n) + ((m <<< more) % n != 0).toNat := ⟨_, rfl⟩
  have he : floatBits .quo .f32 x y = some (FloatKind.f32.format.nearest false mag (i - j - more - 1)) := by
    unfold floatBits Format.div
    dsimp only
    rw [h1, h2]
    unfold Datum.quotient
    dsimp only
    rw [if_neg hn, show FloatKind.f32.format.fractionBits = 23 from fmt32.2.2.2, ← hmore, ← hmag]
    rfl
  have hd : 2 ^ (m.log2 + more - n.log2 - 1) ≤ (m <<< more) / n := by
    rw [Nat.le_div_iff_mul_le (Nat.pos_of_ne_zero hn), Nat.shiftLeft_eq]
    have e1 : 2 ^ (m.log2 + more - n.log2 - 1) * n ≤ 2 ^ (m.log2 + more - n.log2 - 1) * 2 ^ (n.log2 + 1) := Nat.mul_le_mul_left _ (Nat.le_of_lt lt_pow)
    refine Nat.le_trans e1 ?_
    rw [← Nat.pow_add]
    refine Nat.le_trans (Nat.pow_le_pow_right (by decide) (show m.log2 + more - n.log2 - 1 + (n.log2 + 1) ≤ m.log2 + more by omega)) ?_
    rw [Nat.pow_add]
    exact Nat.mul_le_mul_right _ (pow_le hm)
  have hml : 2 ^ (m.log2 + more - n.log2) ≤ mag := by
    have e : 2 ^ (m.log2 + more - n.log2) = 2 * 2 ^ (m.log2 + more - n.log2 - 1) := by
      rw [show m.log2 + more - n.log2 = (m.log2 + more - n.log2 - 1) + 1 by omega, Nat.pow_succ, Nat.mul_comm]
      rfl
    rw [e, hmag]
    omega
  have hm0 : mag ≠ 0 := by have := Nat.two_pow_pos (m.log2 + more - n.log2); omega
  have hlg : m.log2 + more - n.log2 ≤ mag.log2 := (Nat.le_log2 hm0).2 hml
  refine ⟨by rw [fop_some he]; exact he, ?_⟩
  rw [fop_some he]
  exact nearest_pos hm0 (by omega)
theorem nearest_bound2 (s : Bool) {mag K : Nat} {place : Int} (hp : -149 ≤ place) (hK : K < 512) (h : mag * 2 ^ (place + 149).toNat ≤ K * 2 ^ 236) : Bd (FloatKind.f32.format.nearest s mag place) (K * 2 ^ 236) := by
  obtain ⟨fa, fb, fc, fd⟩ := fmt32
  by_cases h0 : mag = 0
  · subst h0
    refine ⟨s, 0, -149, ?_, Int.le_refl _, by simp⟩
    unfold Format.nearest
    rw [if_pos rfl, read_word _ s (by decide), if_pos (by decide)]
    rfl
  · have hlg : mag.log2 + (place + 149).toNat < 245 := by
      have h1 : 2 ^ mag.log2 * 2 ^ (place + 149).toNat ≤ mag * 2 ^ (place + 149).toNat := Nat.mul_le_mul_right _ (pow_le h0)
      have h2 : K * 2 ^ 236 < 2 ^ 9 * 2 ^ 236 := Nat.mul_lt_mul_of_pos_right (by omega) (Nat.two_pow_pos _)
      rw [← Nat.pow_add] at h1 h2
      exact (Nat.pow_lt_pow_iff_right (by decide)).1 (Nat.lt_of_le_of_lt (Nat.le_trans h1 h) h2)
    obtain ⟨last, hlast⟩ : ∃ last, last = max (place + mag.log2 - 23) (-149) := ⟨_, rfl⟩
    obtain ⟨L, hL⟩ : ∃ L : Nat, last = (L : Int) - 149 := ⟨(last + 149).toNat, by omega⟩
    have hL2 : L ≤ 221 := by omega
    obtain ⟨kept, hk⟩ : ∃ kept, kept = Toward.even.cut s (mag <<< (place - last).toNat) (last - place).toNat := ⟨_, rfl⟩
    have hup : kept ≤ 2 ^ 24 := by rw [hk]; exact kept_le 23 s mag place last h0 (by omega)
    have hbd : kept * 2 ^ L ≤ K * 2 ^ 236 := by
      by_cases hlp : last ≤ place
      · have e1 : (last - place).toNat = 0 := by omega
        have hc : kept ≤ mag * 2 ^ (place - last).toNat := by
          rw [hk, e1, Nat.shiftLeft_eq]
          exact cut_up s (by rw [Nat.pow_zero, Nat.mul_one]; exact Nat.le_refl _)
        refine Nat.le_trans (Nat.mul_le_mul_right _ hc) ?_
        rw [Nat.mul_assoc, ← Nat.pow_add, show (place - last).toNat + L = (place + 149).toNat by omega]
        exact h
      · have e1 : (place - last).toNat = 0 := by omega
        have hc : kept ≤ K * 2 ^ (236 - L) := by
          rw [hk, e1, Nat.shiftLeft_zero]
          refine cut_up s ?_
          rw [Nat.mul_assoc, ← Nat.pow_add]
          refine Nat.le_of_mul_le_mul_right (c := 2 ^ (place + 149).toNat) ?_ (Nat.two_pow_pos _)
          rw [Nat.mul_assoc, ← Nat.pow_add, show 236 - L + (last - place).toNat + (place + 149).toNat = 236 by omega]
          exact h
        refine Nat.le_trans (Nat.mul_le_mul_right _ hc) ?_
        rw [Nat.mul_assoc, ← Nat.pow_add, show 236 - L + L = 236 by omega]
        exact Nat.le_refl _
    have hlow : 0 < L → 2 ^ 23 ≤ kept := fun h => by rw [hk]; exact kept_low 23 s mag place last h0 (by omega)
    have hn : FloatKind.f32.format.nearest s mag place = FloatKind.f32.format.word s (L * 8388608 + kept) := by
      unfold Format.nearest
      rw [if_neg h0]
      dsimp only
      rw [fa, fb, fc, fd, show max (place + (mag.log2 : Int) - ((23 : Nat) : Int)) (-149) = last by omega, ← hk, show (last - -149).toNat = L by omega, Nat.min_eq_left (by omega)]
    rw [hn]
    unfold Bd
    rw [read_word _ s (by have := FloatKind.f32.format.infRung_lt; rw [fb] at this; omega), fa, fb, fc]
    by_cases h1 : L * 8388608 + kept < 8388608
    · rw [if_pos h1]
      obtain rfl : L = 0 := by omega
      refine ⟨_, _, _, rfl, Int.le_refl _, ?_⟩
      simpa using hbd
    · rw [if_neg h1, if_pos (by omega)]
      refine ⟨_, _, _, rfl, by omega, ?_⟩
      refine Nat.le_trans (Nat.le_of_eq ?_) hbd
      have hcase : kept < 16777216 ∨ kept = 16777216 := by omega
      have hk8 : 8388608 ≤ kept := by
        by_cases hL0 : 0 < L
        · exact hlow hL0
        · omega
      rcases hcase with hc | hc
      · have e1 : (L * 8388608 + kept) / 8388608 = L + 1 := by omega
        have e2 : (L * 8388608 + kept) % 8388608 = kept - 8388608 := by omega
        rw [e1, e2, show 8388608 + (kept - 8388608) = kept by omega, show (-149 + ((L + 1 - 1 : Nat) : Int) + 149).toNat = L by omega]
      · have e1 : (L * 8388608 + kept) / 8388608 = L + 2 := by omega
        have e2 : (L * 8388608 + kept) % 8388608 = 0 := by omega
        rw [e1, e2, hc, show (-149 + ((L + 2 - 1 : Nat) : Int) + 149).toNat = L + 1 by omega, Nat.pow_succ]
        omega
theorem bd_add2 {x y K1 K2 : Nat} (hx : Bd x (K1 * 2 ^ 236)) (hy : Bd y (K2 * 2 ^ 236)) (hK : K1 + K2 < 512) : Bd (fop .add .f32 x y) ((K1 + K2) * 2 ^ 236) := by
  obtain ⟨s, m, p, h1, hp, hm⟩ := hx
  obtain ⟨t, n, q, h2, hq, hn⟩ := hy
  obtain ⟨base, hb⟩ : ∃ base, base = min p q := ⟨_, rfl⟩
  obtain ⟨total, ht⟩ : ∃ total, total = signed s m (p - base).toNat + signed t n (q - base).toNat := ⟨_, rfl⟩
  have he : floatBits .add .f32 x y = some (FloatKind.f32.format.nearest (if total = 0 then s && t else total < 0) total.natAbs base) := by
    unfold floatBits Format.add
    dsimp only
    rw [h1, h2]
    unfold Datum.sum
    dsimp only
    rw [← hb, ← ht]
    rfl
  rw [fop_some he]
  refine nearest_bound2 _ (by omega) hK ?_
  have h3 : total.natAbs ≤ m * 2 ^ (p - base).toNat + n * 2 ^ (q - base).toNat := by
    rw [ht]
    refine Nat.le_trans (Int.natAbs_add_le _ _) ?_
    rw [signed_abs, signed_abs]
    exact Nat.le_refl _
  refine Nat.le_trans (Nat.mul_le_mul_right _ h3) ?_
  rw [Nat.add_mul, Nat.add_mul, Nat.mul_assoc, Nat.mul_assoc, ← Nat.pow_add, ← Nat.pow_add, show (p - base).toNat + (base + 149).toNat = (p + 149).toNat by omega, show (q - base).toNat + (base + 149).toNat = (q + 149).toNat by omega]
  exact Nat.add_le_add hm hn
theorem logC_bd {c : Nat} (hf : finB c = true) (ho : FloatKind.f32.format.order c 0 = some .gt) : Bd (logC c) (1 * 2 ^ 236) := by
  have hp := pos_of hf ho
  obtain ⟨h1, h2, _⟩ := pos_range hp
  have hfit := logW_fits _ ⟨h1, h2⟩
  have hw := (logC_pos hp).1
  obtain ⟨s, m, p, he, hmp⟩ := hfit
  have hfit2 : Fits (.number s m p) 85 := ⟨s, m, p, rfl, hmp⟩
  have hwr : logC c = FloatKind.f32.format.write (.number s m p) := by
    unfold floatToFloatBits at hw
    rw [if_neg (by decide), show FloatKind.f64.decode (logW (wid c)) = .number s m p from he] at hw
    dsimp only at hw
    split at hw
    · cases hw
    · exact (Option.some.inj hw).symm
  have h3 := fits_enc .f32 hfit2 (by decide) (by decide)
  rw [← hwr] at h3
  obtain ⟨s', m', p', he', hmp'⟩ := h3
  have hpl := read_place he'
  refine ⟨s', m', p', he', hpl, ?_⟩
  rw [Nat.one_mul]
  rcases hmp' with h0 | h0
  · rw [h0]; simp
  · have h4 : m' * 2 ^ (p' + 149).toNat < 2 ^ (m'.log2 + 1) * 2 ^ (p' + 149).toNat := Nat.mul_lt_mul_of_pos_right lt_pow (Nat.two_pow_pos _)
    rw [← Nat.pow_add] at h4
    exact Nat.le_trans (Nat.le_of_lt h4) (Nat.pow_le_pow_right (by decide) (by omega))
/-- a number of a size, or infinity -/
def SV (k z : Nat) : Prop := Bd z (k * 2 ^ 236) ∨ z = 2139095040
theorem inf_num : nanF .f32 2139095040 = false := by decide
theorem SV.num {k z : Nat} (h : SV k z) : nanF .f32 z = false := by
  rcases h with h | h
  · exact fin_num h.fin
  · subst h; exact inf_num
theorem logX_sv {c : Nat} (hn : nanF .f32 c = false) (ho : FloatKind.f32.format.order c 0 = some .gt) : SV 1 (logX c) := by
  cases hf : finB c
  · right
    unfold logX
    rw [hn, if_neg (by decide), ho, if_neg (by decide), if_neg (by decide), hf]
    rfl
  · left
    rw [logX_pos hf ho]
    exact logC_bd hf ho
theorem inf_sum {x y : Nat} (hx : x = 2139095040 ∨ y = 2139095040) (h1 : x = 2139095040 ∨ finB x = true) (h2 : y = 2139095040 ∨ finB y = true) : floatBits .add .f32 x y = some 2139095040 := by
  have hr : FloatKind.f32.format.read 2139095040 = .infinity false := by decide
  have hw : FloatKind.f32.format.write (.infinity false) = 2139095040 := by decide
  have key : ∀ d e : Datum, d.sum e = some (.infinity false) → FloatKind.f32.format.read x = d → FloatKind.f32.format.read y = e → floatBits .add .f32 x y = some 2139095040 := by
    intro d e h hd he
    unfold floatBits Format.add
    dsimp only
    rw [hd, he, h]
    exact congrArg some hw
  rcases h1 with rfl | h1
  · rcases h2 with rfl | h2
    · exact key _ _ rfl hr hr
    · obtain ⟨s, m, p, h3⟩ := fin_read h2
      exact key _ _ rfl hr h3
  · rcases h2 with rfl | h2
    · obtain ⟨s, m, p, h3⟩ := fin_read h1
      exact key _ _ rfl h3 hr
    · exfalso
      rcases hx with rfl | rfl
      · exact absurd h1 (by rw [not_fin_inf hr]; decide)
      · exact absurd h2 (by rw [not_fin_inf hr]; decide)
theorem SV.fin' {k z : Nat} (h : SV k z) : z = 2139095040 ∨ finB z = true := h.elim (fun h => .inr h.fin) .inl
theorem sv_add {k z l : Nat} (hz : SV k z) (hl : SV 1 l) (hk : k + 1 < 512) : floatBits .add .f32 z l = some (fop .add .f32 z l) ∧ SV (k + 1) (fop .add .f32 z l) := by
  by_cases hc : z = 2139095040 ∨ l = 2139095040
  · have h := inf_sum hc hz.fin' hl.fin'
    rw [fop_some h]
    exact ⟨h, .inr rfl⟩
  · have h1 : Bd z (k * 2 ^ 236) := hz.resolve_right (fun h => hc (.inl h))
    have h2 : Bd l (1 * 2 ^ 236) := hl.resolve_right (fun h => hc (.inr h))
    exact ⟨(add_num (fin_num h1.fin) h2.fin).1, .inl (bd_add2 h1 h2 hk)⟩
end Go.Proofs.Ytcpimcjmckljfaa
