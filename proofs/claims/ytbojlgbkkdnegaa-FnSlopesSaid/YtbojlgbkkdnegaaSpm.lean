/- Spectra of small masses: what is nearly so. -/
import Derived.Test.YtbojlgbkkdnegaaTab
import Derived.Test.YtbojlgbkkdnegaaMas
import Derived.Test.YtbojlgbkkdnegaaMono
import Derived.Test.YtbojlgbkkdnegaaLin
namespace Go.Proofs.Ytbojlgbkkdnegaa
open Ieee Go.RowKit
def cntZ (zs : List Int) : Int := (zs.map fun z => if z = 0 then 0 else 1).sum
def sqZ (zs : List Int) : Int := (zs.map fun z => z * z).sum
theorem map_snoc {f : Int → Int} {xs : List Int} {k : Nat} (h : k < xs.length) : ((xs.take (k + 1)).map f).sum = ((xs.take k).map f).sum + f xs[k] := by
  rw [List.take_succ_eq_append_getElem h, List.map_append, List.sum_append]; simp
theorem cnt_bd (zs : List Int) : 0 ≤ cntZ zs ∧ cntZ zs ≤ (zs.length : Int) := by
  induction zs with
  | nil => simp [cntZ]
  | cons z zs ih =>
    have e : cntZ (z :: zs) = (if z = 0 then 0 else 1) + cntZ zs := by simp [cntZ]
    rw [e, List.length_cons]
    split <;> omega
theorem cs_aux (x : Int) (zs : List Int) : 2 * x * zs.sum ≤ cntZ zs * (x * x) + sqZ zs := by
  induction zs with
  | nil => simp [cntZ, sqZ]
  | cons z zs ih =>
    have e1 : cntZ (z :: zs) = (if z = 0 then 0 else 1) + cntZ zs := by simp [cntZ]
    have e2 : sqZ (z :: zs) = z * z + sqZ zs := by simp [sqZ]
    rw [e1, e2, List.sum_cons]
    by_cases h : z = 0
    · rw [if_pos h, h]; simp; exact ih
    · rw [if_neg h]
      have h2 : 0 ≤ (x - z) * (x - z) := by
        rcases Int.le_total 0 (x - z) with h | h
        · exact Int.mul_nonneg h h
        · exact Int.mul_nonneg_of_nonpos_of_nonpos h h
      grind
theorem cs_le (zs : List Int) : zs.sum * zs.sum ≤ cntZ zs * sqZ zs := by
  induction zs with
  | nil => simp [cntZ, sqZ]
  | cons z zs ih =>
    have e1 : cntZ (z :: zs) = (if z = 0 then 0 else 1) + cntZ zs := by simp [cntZ]
    have e2 : sqZ (z :: zs) = z * z + sqZ zs := by simp [sqZ]
    rw [e1, e2, List.sum_cons]
    by_cases h : z = 0
    · rw [if_pos h, h]; simp; exact ih
    · rw [if_neg h]
      have := cs_aux z zs
      grind
theorem sq_bd {zs : List Int} (h : ∀ z ∈ zs, 0 ≤ z ∧ z ≤ 8) : 0 ≤ sqZ zs ∧ sqZ zs ≤ 64 * (zs.length : Int) := by
  induction zs with
  | nil => simp [sqZ]
  | cons z zs ih =>
    have e2 : sqZ (z :: zs) = z * z + sqZ zs := by simp [sqZ]
    have h1 := ih (fun z hz => h z (List.mem_cons_of_mem _ hz))
    have h2 := h z List.mem_cons_self
    have h3 := small_mul (a := z) (b := z) (A := 8) (B := 8) (by omega) (by omega)
    have h4 := Int.mul_nonneg h2.1 h2.1
    rw [e2, List.length_cons]
    omega
theorem mem_sum {zs : List Int} (h : ∀ z ∈ zs, 0 ≤ z ∧ z ≤ 8) {z : Int} (hz : z ∈ zs) : z ≤ zs.sum := by
  induction zs with
  | nil => cases hz
  | cons y ys ih =>
    have h1 := sum_bd (xs := ys) (fun z hz => h z (List.mem_cons_of_mem _ hz))
    have h2 := h y List.mem_cons_self
    rw [List.sum_cons]
    rcases List.mem_cons.1 hz with rfl | hz
    · omega
    · have := ih (fun z hz => h z (List.mem_cons_of_mem _ hz)) hz
      omega
theorem Mss.mem {zs : List Int} {n : Nat} (H : Mss zs n) (hn : 1 ≤ n) : zs.getD 0 0 ∈ zs := by
  cases zs with
  | nil => have := H.len; simp at this; omega
  | cons z zs => simp
theorem Mss.sum {zs : List Int} {n : Nat} (H : Mss zs n) (hn : 1 ≤ n) (h9 : n ≤ 9) : 1 ≤ zs.sum ∧ zs.sum ≤ 72 := by
  have h1 := mem_sum H.all (H.mem hn)
  have h2 := sum_bd H.all
  have h3 := H.hd
  have h4 := H.len
  omega
theorem Mss.mass {zs : List Int} {n : Nat} (H : Mss zs n) (hn : 1 ≤ n) (h9 : n ≤ 9) : massB zs = true := by
  have hl := H.len
  unfold massB
  rw [show decide (1 ≤ zs.length ∧ zs.length ≤ 256) = true by rw [decide_eq_true_eq]; omega]
  have h1 : rngI 0 1000000 zs = true := by
    unfold rngI
    rw [Bool.not_eq_true', List.any_eq_false]
    intro z hz
    have := H.all z hz
    simp [inB]
    omega
  have h2 : posB zs = true := by
    unfold posB
    rw [List.any_eq_true]
    exact ⟨_, H.mem hn, decide_eq_true (show (0 : Int) < zs.getD 0 0 by have := H.hd; omega)⟩
  rw [h1, h2]
  rfl
/-- all pairs are known -/
def AllPairs : Prop := ∀ a m : Int, 1 ≤ m → m ≤ 8 → m ≤ a → a ≤ 72 → PairOk a m
theorem one_fx : (1065353216 : Nat) = fx 1 0 := by decide +kernel
theorem cnt_sum {zs : List Int} (hl : zs.length ≤ 9) {k : Nat} (hk : k ≤ zs.length) : sumT (fun _ => 1065353216) (zs.take k) = fx (cntZ (zs.take k)) 0 := by
  induction k with
  | zero => exact (fx_zero 0).symm
  | succ k ih =>
    have hb := cnt_bd (zs.take k)
    have hlt : (zs.take k).length ≤ zs.length := by rw [List.length_take]; omega
    rw [sumT_take (by omega), ih (by omega)]
    have e : cntZ (zs.take (k + 1)) = cntZ (zs.take k) + (if zs[k] = 0 then 0 else 1) := map_snoc (by omega)
    rw [e]
    by_cases h : zs[k] = 0
    · rw [if_pos h, if_pos h, Int.add_zero]
    · rw [if_neg h, if_neg h]
      show fop .add .f32 (fx _ 0) 1065353216 = _
      rw [one_fx, fop_some (fx_add (by omega) (by omega) (by omega))]
/-- the spectrum at nought -/
def dK (K : Int) : Nat := fop .quo .f32 (logC (fx K 0)) 3212836864
/-- a little less than a share of one -/
def yK (K : Int) : Nat := fop .sub .f32 (fop .quo .f32 1065353216 (fx K 0)) 947628162
def kB (K : Int) : Bool := finB (fx K 0) && (gtB (fx K 0) && ((floatBits .quo .f32 (logC (fx K 0)) 3212836864 == some (dK K)) && (finB (dK K) && (gtB (yK K) && (finB (yK K) && (decide (vl .f32 (yK K) ≤ 1 / K - 1 / 17500) && (decide (1 / 16 ≤ vl .f32 (yK K)) && (decide (vl .f32 (yK K) ≤ 1) &&
  (decide (vl .f32 (dK K) + 1 / 5000 ≤ vl .f32 (logC (yK K)) + 1 / 1000))))))))))
structure KOk (K : Int) : Prop where
  fin : finB (fx K 0) = true
  pos : FloatKind.f32.format.order (fx K 0) 0 = some .gt
  quo : floatBits .quo .f32 (logC (fx K 0)) 3212836864 = some (dK K)
  dfin : finB (dK K) = true
  ypos : FloatKind.f32.format.order (yK K) 0 = some .gt
  yfin : finB (yK K) = true
  y1 : vl .f32 (yK K) ≤ 1 / K - 1 / 17500
  y2 : 1 / 16 ≤ vl .f32 (yK K)
  y3 : vl .f32 (yK K) ≤ 1
  dy : vl .f32 (dK K) + 1 / 5000 ≤ vl .f32 (logC (yK K)) + 1 / 1000
theorem k_ok {K : Int} (h1 : 1 ≤ K) (h2 : K ≤ 9) : KOk K := by
  have h := all_lt (p := fun j => kB ((j : Int) + 1)) (n := 9) (by decide +kernel) (j := (K - 1).toNat) (by omega)
  rw [show (((K - 1).toNat : Nat) : Int) + 1 = K by omega] at h
  unfold kB at h
  simp only [Bool.and_eq_true, beq_iff_eq, decide_eq_true_eq] at h
  obtain ⟨a1, a2, a3, a4, a5, a6, a7, a8, a9, a10⟩ := h
  exact ⟨a1, gtB_t a2, a3, a4, gtB_t a5, a6, a7, a8, a9, a10⟩
/-- the spectrum at nought of masses -/
theorem sp_zero {zs : List Int} {n : Nat} (H : Mss zs n) (hn : 1 ≤ n) (h9 : n ≤ 9) (P : AllPairs) : SpIn zs 0 false (fun _ => 1065353216) (dK (cntZ zs)) ∧ 1 ≤ cntZ zs ∧ cntZ zs ≤ 9 := by
  have hs := H.sum hn h9
  have hl := H.len
  have hc := cnt_bd zs
  have hc1 : 1 ≤ cntZ zs := by
    have h := cs_le zs
    have h2 := Int.mul_pos (show 0 < zs.sum by omega) (show 0 < zs.sum by omega)
    have h3 : cntZ zs ≠ 0 := by
      intro h0
      rw [h0, Int.zero_mul] at h
      omega
    omega
  have K := k_ok hc1 (by omega)
  have e0 : expB 0 = some 1065353216 := by decide +kernel
  have e1 : expB 2147483648 = some 1065353216 := by decide +kernel
  have hp : ∀ z ∈ zs, z ≠ 0 → PairOk zs.sum z := fun z hz h0 => by
    have h1 := H.all z hz
    have h2 := mem_sum H.all hz
    exact P _ _ (by omega) (by omega) h2 (by omega)
  have hsum : sumT (fun _ => 1065353216) zs = fx (cntZ zs) 0 := by
    have h := cnt_sum (zs := zs) (by omega) (Nat.le_refl _)
    rwa [List.take_length] at h
  refine ⟨⟨H.mass hn h9, H.all, by omega, by decide +kernel, by decide +kernel, fun z hz h0 => ?_, fun z hz h0 => .inr ⟨rfl, ?_⟩, fun k hk h0 => ?_, .inr ⟨rfl, 3212836864, ?_⟩⟩, hc1, by omega⟩
  · exact ⟨(hp z hz h0).quo, (hp z hz h0).fin, (hp z hz h0).pos⟩
  · rcases (hp z hz h0).zero with h | h
    · exact ⟨_, h, e0⟩
    · exact ⟨_, h, e1⟩
  · have hb := cnt_bd (zs.take k)
    have hlt : (zs.take k).length ≤ zs.length := by rw [List.length_take]; omega
    rw [cnt_sum (by omega) (by omega)]
    show floatBits .add .f32 (fx _ 0) 1065353216 = some (fop .add .f32 (fx _ 0) 1065353216)
    rw [one_fx, fop_some (fx_add (k := 0) (by omega) (by omega) (by omega))]
    exact fx_add (by omega) (by omega) (by omega)
  · rw [hsum]
    exact ⟨K.fin, K.pos, by decide +kernel, K.quo, fin_num K.dfin⟩
theorem add32 {x y : Nat} (hx : Is .f32 x) (hy : Is .f32 y) (h0 : 0 ≤ vl .f32 x + vl .f32 y) (h1 : vl .f32 x + vl .f32 y ≤ 32) : floatBits .add .f32 x y = some (fop .add .f32 x y) ∧ Is .f32 (fop .add .f32 x y) ∧ 0 ≤ vl .f32 (fop .add .f32 x y) ∧ Near (vl .f32 (fop .add .f32 x y)) (vl .f32 x + vl .f32 y) (tw (-18)) := by
  have hab : ab (vl .f32 x + vl .f32 y) ≤ 32 := ab_le h1 (by grind)
  have o := add_v hx hy (by have : (32 : Rat) < tw 100 := by decide +kernel
                            grind)
  refine ⟨o.some, o.num, o.nn h0, near_le o.near ?_⟩
  have k1 : 32 * tw (-(FloatKind.f32.format.fractionBits + 1 : Int)) + tw (FloatKind.f32.format.leastPlace - 1) ≤ tw (-18) := by decide +kernel
  have k2 := mul_up hab (Rat.le_of_lt (tw_pos (-(FloatKind.f32.format.fractionBits + 1 : Int))))
  unfold ulp
  grind
/-- sums of the terms at two -/
theorem two_sum {zs : List Int} {n : Nat} (H : Mss zs n) (hn : 1 ≤ n) (h9 : n ≤ 9) (P : AllPairs) : ∀ k, k ≤ n → Is .f32 (sumT (eT zs.sum) (zs.take k)) ∧ 0 ≤ vl .f32 (sumT (eT zs.sum) (zs.take k)) ∧ vl .f32 (sumT (eT zs.sum) (zs.take k)) ≤ 3 * (k : Rat) ∧
    ((sqZ (zs.take k) : Int) : Rat) * (65535 / 65536) ≤ (vl .f32 (sumT (eT zs.sum) (zs.take k)) + (k : Rat) * tw (-18)) * ((zs.sum : Rat) * zs.sum) ∧
    (∀ h : k < zs.length, zs[k] ≠ 0 → floatBits .add .f32 (sumT (eT zs.sum) (zs.take k)) (eT zs.sum zs[k]) = some (fop .add .f32 (sumT (eT zs.sum) (zs.take k)) (eT zs.sum zs[k]))) := by
  have hs := H.sum hn h9
  have hl := H.len
  have hp : ∀ z ∈ zs, z ≠ 0 → PairOk zs.sum z := fun z hz h0 => by
    have h1 := H.all z hz
    have h2 := mem_sum H.all hz
    exact P _ _ (by omega) (by omega) h2 (by omega)
  have hA : (0 : Rat) ≤ (zs.sum : Rat) * zs.sum := by
    have h := Rat.intCast_le_intCast.2 (show 0 ≤ zs.sum by omega)
    exact Rat.mul_nonneg h h
  have hd := tw_pos (-18)
  have hd2 : tw (-18) ≤ 1 / 1000 := by decide +kernel
  intro k
  induction k with
  | zero =>
    intro _
    have hv0 : vl .f32 (sumT (eT zs.sum) (zs.take 0)) = 0 := by show vl .f32 0 = 0; decide +kernel
    refine ⟨⟨_, _, _, rfl⟩, by rw [hv0]; exact Rat.le_refl, by rw [hv0]; exact by decide +kernel, ?_, fun h h0 => ?_⟩
    · rw [hv0]
      show ((sqZ [] : Int) : Rat) * _ ≤ (0 + ((0 : Nat) : Rat) * _) * _
      have : ((sqZ [] : Int) : Rat) = 0 := rfl
      rw [this, show ((0 : Nat) : Rat) = 0 from rfl]
      grind
    · have p := hp _ (List.getElem_mem h) h0
      have hz0 : Is .f32 (sumT (eT zs.sum) (zs.take 0)) := ⟨_, _, _, rfl⟩
      have hnn : 0 ≤ vl .f32 (eT zs.sum zs[0]) := by
        apply Classical.byContradiction
        intro hneg
        have h1 := p.lo
        have hz := H.all _ (List.getElem_mem h)
        have h2 := Rat.intCast_le_intCast.2 hz.1
        have h3 := Rat.mul_nonneg (Rat.mul_nonneg h2 h2) (show (0 : Rat) ≤ 65535 / 65536 by decide +kernel)
        have hs2 := Rat.intCast_lt_intCast.2 (show 0 < zs.sum by omega)
        have h4 := Rat.mul_pos (Rat.mul_pos hs2 hs2) (show 0 < -vl .f32 (eT zs.sum zs[0]) by grind)
        have e0 : ((0 : Int) : Rat) = 0 := rfl
        grind
      exact (add32 hz0 p.is (by rw [hv0]; grind) (by rw [hv0]; have := p.hi; grind)).1
  | succ k ih =>
    intro hk
    obtain ⟨i1, i2, i3, i4, i5⟩ := ih (by omega)
    have hkl : k < zs.length := by omega
    have hk9 : (k : Rat) ≤ 8 := by
      have := Rat.natCast_le_natCast.2 (show k ≤ 8 by omega)
      exact this
    have hk0 : (0 : Rat) ≤ (k : Rat) := Rat.natCast_le_natCast.2 (Nat.zero_le k)
    have ek : ((k + 1 : Nat) : Rat) = (k : Rat) + 1 := by rw [Rat.natCast_add]; rfl
    have step : Is .f32 (sumT (eT zs.sum) (zs.take (k + 1))) ∧ 0 ≤ vl .f32 (sumT (eT zs.sum) (zs.take (k + 1))) ∧ vl .f32 (sumT (eT zs.sum) (zs.take (k + 1))) ≤ 3 * ((k : Rat) + 1) ∧
        ((sqZ (zs.take (k + 1)) : Int) : Rat) * (65535 / 65536) ≤ (vl .f32 (sumT (eT zs.sum) (zs.take (k + 1))) + ((k : Rat) + 1) * tw (-18)) * ((zs.sum : Rat) * zs.sum) := by
      have e : sqZ (zs.take (k + 1)) = sqZ (zs.take k) + zs[k] * zs[k] := map_snoc hkl
      have hdA := Rat.mul_nonneg (Rat.le_of_lt hd) hA
      rw [sumT_take hkl, e]
      by_cases h0 : zs[k] = 0
      · rw [if_pos h0, h0]
        refine ⟨i1, i2, by grind, ?_⟩
        rw [show sqZ (zs.take k) + 0 * 0 = sqZ (zs.take k) by omega]
        grind
      · rw [if_neg h0]
        have p := hp _ (List.getElem_mem hkl) h0
        have hz := H.all _ (List.getElem_mem hkl)
        have hnn : 0 ≤ vl .f32 (eT zs.sum zs[k]) := by
          apply Classical.byContradiction
          intro hneg
          have h1 := p.lo
          have h2 := Rat.intCast_le_intCast.2 hz.1
          have h3 := Rat.mul_nonneg (Rat.mul_nonneg h2 h2) (show (0 : Rat) ≤ 65535 / 65536 by decide +kernel)
          have hs2 := Rat.intCast_lt_intCast.2 (show 0 < zs.sum by omega)
          have h4 := Rat.mul_pos (Rat.mul_pos hs2 hs2) (show 0 < -vl .f32 (eT zs.sum zs[k]) by grind)
          have e0 : ((0 : Int) : Rat) = 0 := rfl
          grind
        obtain ⟨a1, a2, a3, a4⟩ := add32 i1 p.is (by grind) (by have := p.hi; grind)
        refine ⟨a2, a3, by have := p.hi; unfold Near at a4; grind, ?_⟩
        have h1 := p.lo
        unfold Near at a4
        have h5 : (vl .f32 (sumT (eT zs.sum) (zs.take k)) + vl .f32 (eT zs.sum zs[k])) * ((zs.sum : Rat) * zs.sum) ≤ (vl .f32 (fop .add .f32 (sumT (eT zs.sum) (zs.take k)) (eT zs.sum zs[k])) + tw (-18)) * ((zs.sum : Rat) * zs.sum) := mul_up (by grind) hA
        rw [Rat.intCast_add, Rat.intCast_mul]
        grind
    obtain ⟨s1, s2, s3, s4⟩ := step
    rw [ek]
    refine ⟨s1, s2, s3, s4, fun h h0 => ?_⟩
    have p := hp _ (List.getElem_mem h) h0
    have hz := H.all _ (List.getElem_mem h)
    have hnn : 0 ≤ vl .f32 (eT zs.sum zs[k + 1]) := by
      apply Classical.byContradiction
      intro hneg
      have h1 := p.lo
      have h2 := Rat.intCast_le_intCast.2 hz.1
      have h3 := Rat.mul_nonneg (Rat.mul_nonneg h2 h2) (show (0 : Rat) ≤ 65535 / 65536 by decide +kernel)
      have hs2 := Rat.intCast_lt_intCast.2 (show 0 < zs.sum by omega)
      have h4 := Rat.mul_pos (Rat.mul_pos hs2 hs2) (show 0 < -vl .f32 (eT zs.sum zs[k + 1]) by grind)
      have e0 : ((0 : Int) : Rat) = 0 := rfl
      grind
    exact (add32 s1 p.is (by grind) (by have := p.hi; grind)).1
end Go.Proofs.Ytbojlgbkkdnegaa
