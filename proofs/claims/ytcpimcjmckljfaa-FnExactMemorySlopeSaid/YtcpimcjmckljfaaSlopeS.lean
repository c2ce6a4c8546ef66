/- Slopes and bases, tested. -/
import Derived.Test.YtcpimcjmckljfaaSlope
namespace Go.Proofs.Ytcpimcjmckljfaa
open Ieee Go.RowKit
set_option maxHeartbeats 8000000 in
set_option maxRecDepth 100000 in
theorem l06Slope_any (A A' : Option Addr) (n n' c c' : Nat) (xs ys : List Nat) (w : World) (hn : xs.length = n) (hn' : ys.length = n') (hm : n ≤ 1048576) (hm' : n' ≤ 1048576) (hr : Rd w w.heap.size A (xs.map (Value.float .f32))) (hr' : Rd w w.heap.size A' (ys.map (Value.float .f32))) :
    Calls Try.prog 66 #[.slice A n c, .slice A' n' c'] w fun e w' => GivesS xs ys e ∧ ∃ m, w' = w.drewN m := by
  have c1 := l06List_any A n c xs w hn hm hr
  have c2 := fun (m : Nat) => l06List_any A' n' c' ys (w.drewN m) hn' hm' hr'
  cases hl : listB xs
  · rw [hl] at c1
    have HO : Hid (slopeOk xs ys = false) := Lib.hid (by unfold slopeOk slopeIn; rw [hl]; rfl)
    have HC1 := Lib.hid c1
    clear c1 c2 hr hr' hl hn hn'
    go_enter Try.func66, Try.ntmps66
    go_wp2_with fail
    refine HC1.out.mono ?_
    rintro e w1 ⟨rfl, m1, rfl⟩
    go_wp2
    go_ret3
    exact ⟨⟨0, 0, by rw [HO.out]; rfl, fun h => by rw [HO.out] at h; cases h⟩, _, by first | rfl | (simp only [World.drew_is_drewN, World.drewN_drewN]; rfl)⟩
  · rw [hl] at c1
    cases hl' : listB ys
    · rw [hl'] at c2
      have HO : Hid (slopeOk xs ys = false) := Lib.hid (by unfold slopeOk slopeIn; rw [hl']; simp)
      have HC1 := Lib.hid c1
      have HC2f := Lib.hid c2
      clear c1 c2 hr hr' hl hl' hn hn'
      go_enter Try.func66, Try.ntmps66
      go_wp2_with fail
      refine HC1.out.mono ?_
      rintro e w1 ⟨rfl, m1, rfl⟩
      go_wp2_with fail
      refine (HC2f.out m1).mono ?_
      rintro e w2 ⟨rfl, m2, rfl⟩
      go_wp2
      go_ret3
      exact ⟨⟨0, 0, by rw [HO.out]; rfl, fun h => by rw [HO.out] at h; cases h⟩, _, by first | rfl | (simp only [World.drew_is_drewN, World.drewN_drewN]; rfl)⟩
    · rw [hl'] at c2
      by_cases hq : n = n'
      · subst hq
        by_cases h2 : 2 ≤ n
        · skip
          have HI : Hid (slopeOk xs ys = (neB (slopeE xs) && (finB (slopeS xs ys) && finB (slopeB xs ys)))) := Lib.hid (by
            unfold slopeOk slopeIn
            rw [hl, hl', show decide (xs.length = ys.length) = true by rw [decide_eq_true_eq]; omega, show decide (2 ≤ xs.length) = true by rw [decide_eq_true_eq]; omega]
            simp only [Bool.true_and])
          have HC1 := Lib.hid c1
          have HC2f := Lib.hid c2
          have hf := (listB_len hl).2
          have hf' := (listB_len hl').2
          clear c1 c2 hl hl' hm'
          have hcv := fun (n : Int) (w : World) => run_convert_int_float (P := Try.prog) w 3 23 .i64 .f32 n (by rw [Try.underlying3]; rfl) Try.underlying23
          have HN : Hid (nOf xs = floatOfInt .f32 (n : Int)) := Lib.hid (by unfold nOf; rw [hn])
          have HF := Lib.hid (finL_mem hf); clear hf
          have HF' := Lib.hid (finL_mem hf'); clear hf'
          have Hn := Lib.hid hn; clear hn
          have Hn' := Lib.hid hn'; clear hn'
          have Hr := Lib.hid hr; clear hr
          have Hr' := Lib.hid hr'; clear hr'
          go_enter Try.func66, Try.ntmps66
          go_wp2_with fail
          refine HC1.out.mono ?_
          rintro e w1 ⟨rfl, m1, rfl⟩
          go_wp2_with fail
          refine (HC2f.out m1).mono ?_
          rintro e w2 ⟨rfl, m2, rfl⟩
          go_wp2_with fail
          go_loopw [8, 9, 10, 11, 12] (fun p q s t i wr => ∃ (k a b z u : Nat), k ≤ n ∧ i = .int .i64 k ∧ p = .float .f32 a ∧ q = .float .f32 b ∧ s = .float .f32 z ∧ t = .float .f32 u ∧ Hid (Sim .f32 a (sumF (xs.take k))) ∧ Hid (Sim .f32 b (sumF (ys.take k))) ∧ Hid (Sim .f32 z (sumF (sqN (xs.take k)))) ∧ Hid (Sim .f32 u (sumF (mulN (xs.take k) (ys.take k)))) ∧ ∃ m, wr = w.drewN m) (fun _ _ _ _ i _ => n - (intOf i).toNat)
          case atStart => exact ⟨0, 0, 0, 0, 0, Nat.zero_le _, rfl, rfl, rfl, rfl, rfl, Lib.hid (.refl _ _), Lib.hid (.refl _ _), Lib.hid (.refl _ _), Lib.hid (.refl _ _), drw_mk _ _⟩
          case round =>
            obtain ⟨k, a, b, z, u, hk, rfl, rfl, rfl, rfl, rfl, HA, HB, HZ, HU, hq⟩ := hrel
            by_cases hlt : k < n
            · have hka : k < xs.length := by rw [Hn.out]; exact hlt
              have hkb : k < ys.length := by rw [Hn'.out]; exact hlt
              obtain ⟨ad, rfl, hab, hcell⟩ := Hr.out.at_ (k := k) (by rw [List.length_map]; exact hka)
              obtain ⟨ad', rfl, hab', hcell'⟩ := Hr'.out.at_ (k := k) (by rw [List.length_map]; exact hkb)
              rw [List.getElem_map] at hcell hcell'
              have HQ := Lib.hid hq
              have hfx := HF.out _ (List.getElem_mem hka)
              have hfy := HF'.out _ (List.getElem_mem hkb)
              have HS := Lib.hid (sqN_take hka)
              have HS' := Lib.hid (mulN_take hka hkb)
              have HT := Lib.hid (sumF_take hka)
              have HT' := Lib.hid (sumF_take hkb)
              obtain ⟨x, hx⟩ : ∃ x, x = xs[k] := ⟨_, rfl⟩
              rw [← hx] at hcell HS HS' hfx HT
              obtain ⟨y, hy⟩ : ∃ y, y = ys[k] := ⟨_, rfl⟩
              rw [← hy] at hcell' HS' hfy HT'
              have hx2 := run_num (P := Try.prog) (mul_num hfx hfx).1
              have hxy := run_num (P := Try.prog) (mul_num hfx hfy).1
              have HE := Lib.hid hcell
              have HE' := Lib.hid hcell'
              have e1 := cell_drw hq hcell
              have e1' := cell_drw hq hcell'
              clear hx hy hcell hcell' hq hfx hfy
              go_wp2_with (first | (refine wpList_fop rfl .add 23 (.tmp 45) (.tmp 49) 23 rfl arith_add .f32 _ _ rfl rfl ?_; intro r1 m3 h1) | (refine wpList_fop rfl .add 23 (.tmp 51) (.tmp 55) 23 rfl arith_add .f32 _ _ rfl rfl ?_; intro r2 m4 h2))
              have H1 := Lib.hid (h1.trans (fop_sim arith_add HA.out (.refl _ x)))
              have H2 := Lib.hid (h2.trans (fop_sim arith_add HB.out (.refl _ y)))
              have hq2 := drw_trans HQ.out (show ∃ k, wr.drewN (m3 + m4) = wr.drewN k from ⟨_, rfl⟩)
              clear h1 h2 e1 e1'
              generalize World.drewN wr (m3 + m4) = w2 at hq2 ⊢
              have HQ2 := Lib.hid hq2
              have e2 := cell_drw hq2 HE.out
              clear hq2
              go_wp2_with fail
              go_still_tail 10, (by kernel_rfl)
              change wpList _ _ _ _ _ (World.drew _)
              go_wp2_with (first | (refine wpList_fopW rfl .add 23 (.tmp 57) (.tmp 66) 23 rfl arith_add .f32 _ _ rfl rfl ?_; intro r3 w3 h3 q3))
              have hq3 := drw_trans (drw_drew HQ2.out) q3
              have HQ3 := Lib.hid hq3
              have H3 := Lib.hid (h3.trans (fop_sim arith_add HZ.out (.refl _ _)))
              have e3 := cell_drw hq3 HE.out
              have e3' := cell_drw hq3 HE'.out
              clear h3 hq3 q3 e2
              go_wp2_with fail
              go_still_tail 10, (by kernel_rfl)
              change wpList _ _ _ _ _ (World.drew _)
              go_wp2_with (first | (refine wpList_fopW rfl .add 23 (.tmp 68) (.tmp 77) 23 rfl arith_add .f32 _ _ rfl rfl ?_; intro r4 w4 h4 q4))
              have HQ4 := Lib.hid (drw_trans (drw_drew HQ3.out) q4)
              have H4 := Lib.hid (h4.trans (fop_sim arith_add HU.out (.refl _ _)))
              clear h4 q4 e3 e3'
              go_wp2
              go_roundw
              case rel => exact ⟨k + 1, r1, r2, r3, r4, by omega, by go_num, rfl, rfl, rfl, rfl, Lib.hid (by rw [HT.out]; exact H1.out), Lib.hid (by rw [HT'.out]; exact H2.out), Lib.hid (by rw [HS.out]; exact H3.out), Lib.hid (by rw [HS'.out]; exact H4.out), HQ4.out⟩
              case measure => simp [intOf]; omega
            · obtain rfl : n = k := by omega
              have hT : xs.take n = xs := List.take_of_length_le (by rw [Hn.out]; omega)
              have hT' : ys.take n = ys := List.take_of_length_le (by rw [Hn'.out]; omega)
              have KA : Hid (Sim .f32 a (sumF xs)) := Lib.hid (by have h := HA.out; rwa [hT] at h)
              have KB : Hid (Sim .f32 b (sumF ys)) := Lib.hid (by have h := HB.out; rwa [hT'] at h)
              have KZ : Hid (Sim .f32 z (sumF (sqN xs))) := Lib.hid (by have h := HZ.out; rwa [hT] at h)
              have KU : Hid (Sim .f32 u (sumF (mulN xs ys))) := Lib.hid (by have h := HU.out; rwa [hT, hT'] at h)
              have HQ := Lib.hid hq
              clear hT hT' hq
              cases g1 : neB (slopeE xs)
              · have HO : Hid (slopeOk xs ys = false) := Lib.hid (by rw [HI.out, g1]; rfl)
                have HG := Lib.hid g1
                clear g1
                go_wp2_with (first | (refine wpList_fopW rfl .mul 23 (.tmp 79) (.tmp 80) 23 rfl arith_mul .f32 _ _ rfl rfl ?_; intro r1 w1 h1 q1) | (refine wpList_fopW rfl .mul 23 (.tmp 82) (.tmp 83) 23 rfl arith_mul .f32 _ _ rfl rfl ?_; intro r2 w2 h2 q2) | (refine wpList_fopW rfl .sub 23 (.tmp 81) (.tmp 84) 23 rfl arith_sub .f32 _ _ rfl rfl ?_; intro r3 w3 h3 q3; have K3 : Sim .f32 r3 (slopeE xs) := (by unfold slopeE; rw [HN.out]; exact h3.trans (fop_sim arith_sub (h1.trans (fop_sim arith_mul (.refl _ _) KZ.out)) (h2.trans (fop_sim arith_mul KA.out KA.out)))); have he : (FloatKind.f32.format.order r3 0 != some .eq) = false := (neB_sim K3).trans HG.out) | (refine wpList_fopW rfl .mul 23 (.tmp 86) (.tmp 87) 23 rfl arith_mul .f32 _ _ rfl rfl ?_; intro r4 w4 h4 q4) | (refine wpList_fopW rfl .mul 23 (.tmp 89) (.tmp 90) 23 rfl arith_mul .f32 _ _ rfl rfl ?_; intro r5 w5 h5 q5) | (refine wpList_fopW rfl .sub 23 (.tmp 88) (.tmp 91) 23 rfl arith_sub .f32 _ _ rfl rfl ?_; intro r6 w6 h6 q6) | (refine wpList_fopW rfl .quo 23 (.tmp 92) (.tmp 93) 23 rfl arith_quo .f32 _ _ rfl rfl ?_; intro r7 w7 h7 q7) | (refine wpList_fopW rfl .mul 23 (.tmp 96) (.tmp 97) 23 rfl arith_mul .f32 _ _ rfl rfl ?_; intro r8 w8 h8 q8) | (refine wpList_fopW rfl .sub 23 (.tmp 95) (.tmp 98) 23 rfl arith_sub .f32 _ _ rfl rfl ?_; intro r9 w9 h9 q9) | (refine wpList_fopW rfl .quo 23 (.tmp 99) (.tmp 100) 23 rfl arith_quo .f32 _ _ rfl rfl ?_; intro r10 w10 h10 q10))
                go_ret3
                exact ⟨⟨_, _, by rw [HO.out]; rfl, fun h => by rw [HO.out] at h; cases h⟩, drw_trans (drw_trans (drw_trans (drw_trans (drw_trans (drw_trans (drw_trans (drw_trans (drw_trans (drw_trans HQ.out q1) q2) q3) q4) q5) q6) q7) q8) q9) q10⟩
              · have HG := Lib.hid g1
                clear g1
                go_wp2_with (first | (refine wpList_fopW rfl .mul 23 (.tmp 79) (.tmp 80) 23 rfl arith_mul .f32 _ _ rfl rfl ?_; intro r1 w1 h1 q1) | (refine wpList_fopW rfl .mul 23 (.tmp 82) (.tmp 83) 23 rfl arith_mul .f32 _ _ rfl rfl ?_; intro r2 w2 h2 q2) | (refine wpList_fopW rfl .sub 23 (.tmp 81) (.tmp 84) 23 rfl arith_sub .f32 _ _ rfl rfl ?_; intro r3 w3 h3 q3; have K3 : Sim .f32 r3 (slopeE xs) := (by unfold slopeE; rw [HN.out]; exact h3.trans (fop_sim arith_sub (h1.trans (fop_sim arith_mul (.refl _ _) KZ.out)) (h2.trans (fop_sim arith_mul KA.out KA.out)))); have he : (FloatKind.f32.format.order r3 0 != some .eq) = true := (neB_sim K3).trans HG.out) | (refine wpList_fopW rfl .mul 23 (.tmp 86) (.tmp 87) 23 rfl arith_mul .f32 _ _ rfl rfl ?_; intro r4 w4 h4 q4) | (refine wpList_fopW rfl .mul 23 (.tmp 89) (.tmp 90) 23 rfl arith_mul .f32 _ _ rfl rfl ?_; intro r5 w5 h5 q5) | (refine wpList_fopW rfl .sub 23 (.tmp 88) (.tmp 91) 23 rfl arith_sub .f32 _ _ rfl rfl ?_; intro r6 w6 h6 q6) | (refine wpList_fopW rfl .quo 23 (.tmp 92) (.tmp 93) 23 rfl arith_quo .f32 _ _ rfl rfl ?_; intro r7 w7 h7 q7) | (refine wpList_fopW rfl .mul 23 (.tmp 96) (.tmp 97) 23 rfl arith_mul .f32 _ _ rfl rfl ?_; intro r8 w8 h8 q8) | (refine wpList_fopW rfl .sub 23 (.tmp 95) (.tmp 98) 23 rfl arith_sub .f32 _ _ rfl rfl ?_; intro r9 w9 h9 q9) | (refine wpList_fopW rfl .quo 23 (.tmp 99) (.tmp 100) 23 rfl arith_quo .f32 _ _ rfl rfl ?_; intro r10 w10 h10 q10))
                have K7 : Sim .f32 r7 (slopeS xs ys) := by
                  unfold slopeS
                  rw [HN.out]
                  exact h7.trans (fop_sim arith_quo (h6.trans (fop_sim arith_sub (h4.trans (fop_sim arith_mul (.refl _ _) KU.out)) (h5.trans (fop_sim arith_mul KA.out KB.out)))) K3)
                have K10 : Sim .f32 r10 (slopeB xs ys) := by
                  unfold slopeB
                  rw [HN.out]
                  exact h10.trans (fop_sim arith_quo (h9.trans (fop_sim arith_sub KB.out (h8.trans (fop_sim arith_mul K7 KA.out)))) (.refl _ _))
                have HQ9 := Lib.hid (drw_trans (drw_trans (drw_trans (drw_trans (drw_trans (drw_trans (drw_trans (drw_trans (drw_trans (drw_trans HQ.out q1) q2) q3) q4) q5) q6) q7) q8) q9) q10)
                clear h1 h2 h3 h4 h5 h6 h7 h8 h9 h10 q1 q2 q3 q4 q5 q6 q7 q8 q9 q10 K3
                have c63s := fun W => l01Finite_any r7 W
                have c63b := fun W => l01Finite_any r10 W
                rw [finB_sim K7] at c63s
                rw [finB_sim K10] at c63b
                cases g2 : finB (slopeS xs ys)
                · rw [g2] at c63s
                  have HO : Hid (slopeOk xs ys = false) := Lib.hid (by rw [HI.out, HG.out, g2]; rfl)
                  have HC := Lib.hid c63s
                  clear c63s c63b K7 K10 g2
                  refine (HC.out _).mono ?_
                  rintro e w' ⟨rfl, m4, rfl⟩
                  go_wp2
                  go_ret3
                  exact ⟨⟨_, _, by rw [HO.out]; rfl, fun h => by rw [HO.out] at h; cases h⟩, drw_trans HQ9.out ⟨_, rfl⟩⟩
                · rw [g2] at c63s
                  have hse := K7.eq (fin_num g2)
                  have HC := Lib.hid c63s
                  cases g3 : finB (slopeB xs ys)
                  · rw [g3] at c63b
                    have HO : Hid (slopeOk xs ys = false) := Lib.hid (by rw [HI.out, HG.out, g2, g3]; rfl)
                    have HC' := Lib.hid c63b
                    clear c63s c63b K7 K10 g2 g3 hse
                    refine (HC.out _).mono ?_
                    rintro e w' ⟨rfl, m4, rfl⟩
                    go_wp2_with fail
                    refine (HC'.out _).mono ?_
                    rintro e w' ⟨rfl, m5, rfl⟩
                    go_wp2
                    go_ret3
                    exact ⟨⟨_, _, by rw [HO.out]; rfl, fun h => by rw [HO.out] at h; cases h⟩, drw_trans HQ9.out ⟨_, by first | rfl | (simp only [World.drew_is_drewN, World.drewN_drewN]; rfl)⟩⟩
                  · rw [g3] at c63b
                    have HO : Hid (slopeOk xs ys = true) := Lib.hid (by rw [HI.out, HG.out, g2, g3]; rfl)
                    have HC' := Lib.hid c63b
                    have HV := Lib.hid (And.intro hse (K10.eq (fin_num g3)))
                    clear c63s c63b K7 K10 g2 g3 hse
                    refine (HC.out _).mono ?_
                    rintro e w' ⟨rfl, m4, rfl⟩
                    go_wp2_with fail
                    refine (HC'.out _).mono ?_
                    rintro e w' ⟨rfl, m5, rfl⟩
                    go_wp2
                    go_ret3
                    exact ⟨⟨_, _, by rw [HO.out]; rfl, fun _ => HV.out⟩, drw_trans HQ9.out ⟨_, by first | rfl | (simp only [World.drew_is_drewN, World.drewN_drewN]; rfl)⟩⟩
        · have h2' : (n : Int) < 2 := by omega
          have HO : Hid (slopeOk xs ys = false) := Lib.hid (by unfold slopeOk slopeIn; rw [show decide (2 ≤ xs.length) = false by rw [decide_eq_false_iff_not]; omega]; simp)
          have HC1 := Lib.hid c1
          have HC2f := Lib.hid c2
          clear c1 c2 hr hr' hl hl' h2
          go_enter Try.func66, Try.ntmps66
          go_wp2_with fail
          refine HC1.out.mono ?_
          rintro e w1 ⟨rfl, m1, rfl⟩
          go_wp2_with fail
          refine (HC2f.out m1).mono ?_
          rintro e w2 ⟨rfl, m2, rfl⟩
          go_wp2
          go_ret3
          exact ⟨⟨0, 0, by rw [HO.out]; rfl, fun h => by rw [HO.out] at h; cases h⟩, _, by first | rfl | (simp only [World.drew_is_drewN, World.drewN_drewN]; rfl)⟩
      · have hq' : ¬ ((n : Int) = (n' : Int)) := by omega
        have hq2 : ((n : Int) == (n' : Int)) = false := by simp; omega
        have HO : Hid (slopeOk xs ys = false) := Lib.hid (by unfold slopeOk slopeIn; rw [show decide (xs.length = ys.length) = false by rw [decide_eq_false_iff_not]; omega]; simp)
        have HC1 := Lib.hid c1
        have HC2f := Lib.hid c2
        clear c1 c2 hr hr' hl hl' hq
        go_enter Try.func66, Try.ntmps66
        go_wp2_with fail
        refine HC1.out.mono ?_
        rintro e w1 ⟨rfl, m1, rfl⟩
        go_wp2_with fail
        refine (HC2f.out m1).mono ?_
        rintro e w2 ⟨rfl, m2, rfl⟩
        go_wp2
        go_ret3
        exact ⟨⟨0, 0, by rw [HO.out]; rfl, fun h => by rw [HO.out] at h; cases h⟩, _, by first | rfl | (simp only [World.drew_is_drewN, World.drewN_drewN]; rfl)⟩
end Go.Proofs.Ytcpimcjmckljfaa
