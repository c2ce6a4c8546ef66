/- The slope of the tail of six small whole numbers. -/
import Derived.Test.YtbojlgbkkdnegaaLgV
namespace Go.Proofs.Ytbojlgbkkdnegaa
open Ieee Go.RowKit Go.Lib Go.Sort
/-- a small whole number -/
def wz (t : Nat) : Nat := floatOfInt .f32 (t : Int)
theorem wz_v {t : Nat} (h1 : 1 ≤ t) (h2 : t ≤ 32) : Is .f32 (wz t) ∧ vl .f32 (wz t) = (t : Rat) := by
  obtain ⟨a, b⟩ := cnt_v (n := (t : Int)) (by omega) (by omega)
  exact ⟨a, by rw [show vl .f32 (wz t) = _ from b]; exact Rat.intCast_natCast _⟩
theorem wz_key {a b : Nat} (h1 : 1 ≤ a) (h2 : a ≤ 32) (h3 : 1 ≤ b) (h4 : b ≤ 32) : keyF (wz a) ≤ keyF (wz b) ↔ a ≤ b := by
  obtain ⟨a1, a2⟩ := wz_v h1 h2
  obtain ⟨b1, b2⟩ := wz_v h3 h4
  have o := (order_v b1 a1).1
  rw [cmpN_lt' b1.fin a1.fin, b2, a2, decide_eq_decide, Rat.natCast_lt_natCast] at o
  omega
/-- what the law draws -/
structure Six (ts : List Nat) : Prop where
  len : ts.length = 6
  bd : ∀ t ∈ ts, 1 ≤ t ∧ t ≤ 32
theorem Six.get {ts : List Nat} (S : Six ts) {i : Nat} (h : i < 6) : 1 ≤ ts.getD i 0 ∧ ts.getD i 0 ≤ 32 ∧ ts.getD i 0 ∈ ts ∧ (ts.map wz).getD i 0 = wz (ts.getD i 0) := by
  have hi : i < ts.length := by rw [S.len]; exact h
  have e : ts.getD i 0 = ts[i] := by simp [List.getD, List.getElem?_eq_getElem hi]
  have hb := S.bd ts[i] (List.getElem_mem hi)
  refine ⟨by rw [e]; exact hb.1, by rw [e]; exact hb.2, by rw [e]; exact List.getElem_mem hi, ?_⟩
  rw [e]
  simp [List.getD, List.getElem?_map, List.getElem?_eq_getElem hi]
theorem Six.is {ts : List Nat} (S : Six ts) : ∀ x ∈ ts.map wz, Is .f32 x := by
  intro x hx
  obtain ⟨t, ht, rfl⟩ := List.mem_map.1 hx
  exact (wz_v (S.bd t ht).1 (S.bd t ht).2).1
theorem Six.pos {ts : List Nat} (S : Six ts) : (ts.map wz).any (fun x => !gtB x) = false := by
  rw [List.any_eq_false]
  intro x hx
  obtain ⟨t, ht, rfl⟩ := List.mem_map.1 hx
  obtain ⟨a, b⟩ := wz_v (S.bd t ht).1 (S.bd t ht).2
  have hg : gtB (wz t) = true := by
    unfold gtB
    rw [(order_v a zero_is.1).2.1, zero_is.2, b, decide_eq_true_eq]
    exact Rat.natCast_lt_natCast.2 (show 0 < t by have := (S.bd t ht).1; omega)
  rw [hg]; simp
theorem Six.inn {ts : List Nat} (S : Six ts) : tailIn (ts.map wz) 5 = true := by
  unfold tailIn
  rw [list_of_is S.is (by rw [List.length_map, S.len]; decide), S.pos, List.length_map, S.len]
  rfl
/-- the numbers downwards, as whole numbers -/
theorem Six.down {ts : List Nat} (S : Six ts) : ∃ us : List Nat, (∀ i, i < 6 → (srtD (ts.map wz)).getD i 0 = wz (us.getD i 0) ∧ 1 ≤ us.getD i 0 ∧ us.getD i 0 ≤ 32 ∧ us.getD i 0 ∈ ts ∧ us.getD 5 0 ≤ us.getD i 0) ∧ ∀ t ∈ ts, ∃ i, i < 6 ∧ us.getD i 0 = t := by
  have hl : (ts.map wz).length = 6 := by rw [List.length_map, S.len]
  obtain ⟨hp, hw⟩ := rank_spec (ts.map wz)
  rw [hl] at hp
  have hrl : (rankL (ts.map wz)).length = 6 := by rw [hp.length_eq]; simp
  refine ⟨(rankL (ts.map wz)).map fun i => ts.getD i 0, ?_, ?_⟩
  · intro i hi
    have hi' : i < (rankL (ts.map wz)).length := by omega
    have h5 : 5 < (rankL (ts.map wz)).length := by omega
    have hmem : (rankL (ts.map wz))[i] < 6 := List.mem_range.1 (hp.mem_iff.1 (List.getElem_mem hi'))
    have hmem5 : (rankL (ts.map wz))[5] < 6 := List.mem_range.1 (hp.mem_iff.1 (List.getElem_mem h5))
    have eu : ∀ k (hk : k < (rankL (ts.map wz)).length), ((rankL (ts.map wz)).map fun i => ts.getD i 0).getD k 0 = ts.getD (rankL (ts.map wz))[k] 0 := by
      intro k hk
      rw [List.getD_eq_getElem?_getD, List.getElem?_map, List.getElem?_eq_getElem hk]
      rfl
    have es : (srtD (ts.map wz)).getD i 0 = (ts.map wz).getD (rankL (ts.map wz))[i] 0 := by
      unfold srtD
      rw [List.getD_eq_getElem?_getD, List.getElem?_map, List.getElem?_eq_getElem hi']
      rfl
    obtain ⟨g1, g2, g3, g4⟩ := S.get hmem
    obtain ⟨q1, q2, q3, q4⟩ := S.get hmem5
    rw [eu i hi', eu 5 h5, es, g4]
    refine ⟨rfl, g1, g2, g3, ?_⟩
    rcases Nat.lt_or_eq_of_le (show i ≤ 5 by omega) with h | h
    · have := pair_get hw hi' h5 h
      unfold ltD keyAt at this
      rw [g4, q4] at this
      exact (wz_key q1 q2 g1 g2).1 (by omega)
    · subst h; exact Nat.le_refl _
  · intro t ht
    obtain ⟨j, hj, rfl⟩ := List.getElem_of_mem ht
    have hj6 : j < 6 := by rw [← S.len]; exact hj
    have hm : j ∈ rankL (ts.map wz) := hp.mem_iff.2 (List.mem_range.2 hj6)
    obtain ⟨i, hi, he⟩ := List.getElem_of_mem hm
    refine ⟨i, by omega, ?_⟩
    rw [List.getD_eq_getElem?_getD, List.getElem?_map, List.getElem?_eq_getElem hi, he]
    show ts.getD j 0 = _
    simp [List.getD, List.getElem?_eq_getElem hj]
theorem tailQ_wz {sl : List Nat} {i a b : Nat} (h1 : sl.getD i 0 = wz a) (h2 : sl.getD 5 0 = wz b) : logX (tailQ sl 5 i) = lgT a b := by
  unfold tailQ lgT
  rw [h1, h2]
  rfl
/-- all are the same: no slope -/
theorem tail_same {ts : List Nat} (S : Six ts) (h : ∀ a ∈ ts, ∀ b ∈ ts, a = b) : tailB (ts.map wz) 5 = false ∧ tailR (ts.map wz) 5 = 0 := by
  obtain ⟨us, hu, _⟩ := S.down
  have hz : tailS (srtD (ts.map wz)) 5 5 = 0 := by
    have hterm : ∀ i, i < 5 → logX (tailQ (srtD (ts.map wz)) 5 i) = 0 := by
      intro i hi
      obtain ⟨a1, a2, a3, a4, _⟩ := hu i (by omega)
      obtain ⟨b1, _, _, b4, _⟩ := hu 5 (by omega)
      rw [tailQ_wz a1 b1, h _ b4 _ a4]
      exact lg_eq a2 a3
    unfold tailS
    rw [show (List.range 5).map (fun i => logX (tailQ (srtD (ts.map wz)) 5 i)) = (List.range 5).map (fun _ => 0) from List.map_congr_left fun i hi => hterm i (List.mem_range.1 hi)]
    decide +kernel
  have hok : tailOk (ts.map wz) 5 = false := by
    unfold tailOk
    rw [show (5 : Int).toNat = 5 from rfl, hz, show gtB 0 = false from by decide]
    simp
  obtain ⟨q1, q2⟩ := tail_no hok
  exact ⟨q2, q1⟩
/-- not all are the same: a slope -/
theorem tail_diff {ts : List Nat} (S : Six ts) (h : ¬ ∀ a ∈ ts, ∀ b ∈ ts, a = b) : tailB (ts.map wz) 5 = true ∧ Is .f32 (tailR (ts.map wz) 5) ∧ 0 < vl .f32 (tailR (ts.map wz) 5) := by
  obtain ⟨us, hu, hall⟩ := S.down
  have hd : ∃ i, i < 5 ∧ us.getD i 0 ≠ us.getD 5 0 := by
    apply Classical.byContradiction
    intro hn
    apply h
    have key : ∀ i, i < 6 → us.getD i 0 = us.getD 5 0 := by
      intro i hi
      rcases Nat.lt_or_eq_of_le (show i ≤ 5 by omega) with h5 | h5
      · apply Classical.byContradiction
        intro hne
        exact hn ⟨i, h5, hne⟩
      · rw [h5]
    intro a ha b hb
    obtain ⟨i, hi, rfl⟩ := hall a ha
    obtain ⟨j, hj, rfl⟩ := hall b hb
    rw [key i hi, key j hj]
  have hterm : ∀ i, i < 5 → Is .f32 (logX (tailQ (srtD (ts.map wz)) 5 i)) ∧ 0 ≤ vl .f32 (logX (tailQ (srtD (ts.map wz)) 5 i)) ∧ vl .f32 (logX (tailQ (srtD (ts.map wz)) 5 i)) ≤ 4 ∧ (us.getD i 0 ≠ us.getD 5 0 → 1 / 100 ≤ vl .f32 (logX (tailQ (srtD (ts.map wz)) 5 i))) := by
    intro i hi
    obtain ⟨a1, a2, a3, a4, a5⟩ := hu i (by omega)
    obtain ⟨b1, b2, b3, b4, _⟩ := hu 5 (by omega)
    rw [tailQ_wz a1 b1]
    rcases Nat.lt_or_eq_of_le a5 with hlt | heq
    · obtain ⟨l1, l2, l3⟩ := lg_v b2 hlt a3
      exact ⟨l1, by grind, l3, fun _ => l2⟩
    · rw [heq, lg_eq a2 a3]
      obtain ⟨z1, z2⟩ := zero_is
      rw [z2]
      exact ⟨z1, by grind, by grind, fun hne => absurd rfl hne⟩
  have hsum : ∀ k, k ≤ 5 → Is .f32 (tailS (srtD (ts.map wz)) 5 k) ∧ 0 ≤ vl .f32 (tailS (srtD (ts.map wz)) 5 k) ∧ vl .f32 (tailS (srtD (ts.map wz)) 5 k) ≤ (k : Rat) * 5 ∧ ∀ i, i < k → vl .f32 (logX (tailQ (srtD (ts.map wz)) 5 i)) ≤ vl .f32 (tailS (srtD (ts.map wz)) 5 k) + (k : Rat) / 10000 := by
    intro k
    induction k with
    | zero =>
      intro _
      obtain ⟨z1, z2⟩ := zero_is
      refine ⟨z1, ?_, ?_, fun i hi => by omega⟩
      · show 0 ≤ vl .f32 0
        rw [z2]; grind
      · show vl .f32 0 ≤ _
        rw [z2, show ((0 : Nat) : Rat) = 0 from rfl]; grind
    | succ k ih =>
      intro hk
      obtain ⟨i1, i2, i3, i4⟩ := ih (by omega)
      obtain ⟨t1, t2, t3, _⟩ := hterm k (by omega)
      have k0 : (0 : Rat) ≤ (k : Rat) := Rat.natCast_le_natCast.2 (Nat.zero_le k)
      have k1 : (k : Rat) ≤ 4 := Rat.natCast_le_natCast.2 (show k ≤ 4 by omega)
      have hin : In (vl .f32 (tailS (srtD (ts.map wz)) 5 k) + vl .f32 (logX (tailQ (srtD (ts.map wz)) 5 k))) 24 := by unfold In; grind
      have g := add_g i1 t1 hin (by decide +kernel)
      have g1 := g.lo
      have g2 := g.hi
      have g3 := g.nn (by grind)
      rw [tailS_up, succ_rat]
      refine ⟨g.num, g3, by grind, fun i hi => ?_⟩
      by_cases h : i < k
      · have := i4 i h; grind
      · obtain rfl : i = k := by omega
        grind
  obtain ⟨s1, s2, s3, s4⟩ := hsum 5 (Nat.le_refl 5)
  obtain ⟨i, hi, hne⟩ := hd
  have hpos : 9 / 1000 ≤ vl .f32 (tailS (srtD (ts.map wz)) 5 5) := by
    have h1 := (hterm i hi).2.2.2 hne
    have h2 := s4 i hi
    rw [show ((5 : Nat) : Rat) = 5 from rfl] at h2
    grind
  rw [show ((5 : Nat) : Rat) = 5 from rfl] at s3
  have hgt : gtB (tailS (srtD (ts.map wz)) 5 5) = true := by
    unfold gtB
    rw [(order_v s1 zero_is.1).2.1, zero_is.2, decide_eq_true_eq]
    grind
  have hok : tailOk (ts.map wz) 5 = true := by
    unfold tailOk
    rw [S.inn, show (5 : Int).toNat = 5 from rfl, hgt]
    rfl
  obtain ⟨c1, c2⟩ := cnt_v (n := 5) (by decide) (by decide)
  rw [show ((5 : Int) : Rat) = 5 from rfl] at c2
  obtain ⟨E, hE⟩ : ∃ E, E = vl .f32 (floatOfInt .f32 5) / vl .f32 (tailS (srtD (ts.map wz)) 5 5) := ⟨_, rfl⟩
  have hEN : E * vl .f32 (tailS (srtD (ts.map wz)) 5 5) = 5 := by rw [hE, div_mul (by grind), c2]
  have hE1 : E ≤ 1000 := by
    refine le_of_mul (c := vl .f32 (tailS (srtD (ts.map wz)) 5 5)) (by grind) ?_
    rw [hEN]; grind
  have hE2 : 1 / 10 ≤ E := by
    refine le_of_mul (c := vl .f32 (tailS (srtD (ts.map wz)) 5 5)) (by grind) ?_
    rw [hEN]; grind
  have g := quo_g c1 s1 (by grind) (b := 1000) (by rw [← hE]; unfold In; grind) (by decide +kernel)
  have g1 := g.lo
  rw [← hE] at g1
  have hC : Is .f32 (tailC (srtD (ts.map wz)) 5) := g.num
  have hCv : 0 < vl .f32 (tailC (srtD (ts.map wz)) 5) := by
    show 0 < vl .f32 (fop .quo .f32 (floatOfInt .f32 5) (tailS (srtD (ts.map wz)) 5 5))
    grind
  unfold tailB tailR
  rw [hok, if_pos rfl, if_pos rfl]
  unfold numV
  rw [hC.fin, if_pos rfl]
  exact ⟨rfl, hC, hCv⟩
end Go.Proofs.Ytbojlgbkkdnegaa
