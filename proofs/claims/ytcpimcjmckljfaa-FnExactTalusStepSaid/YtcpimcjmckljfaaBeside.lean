/- The sides of a place of a sheet, both ways. -/
import Derived.Test.YtcpimcjmckljfaaSheetBox
import Derived.Deep.DeepCutAuto
namespace Go.Proofs.Ytcpimcjmckljfaa
open Go.RowKit
def nb1 (wd i : Int) : List Int := if wd ≤ i then [i - wd] else []
def nb2 (wd i : Int) : List Int := nb1 wd i ++ if 0 < i % wd then [i - 1] else []
def nb3 (wd i : Int) : List Int := nb2 wd i ++ if i % wd + 1 < wd then [i + 1] else []
/-- the neighbours of cell i of a grid of wd columns and hg rows: above, left, right, below -/
def nb (wd hg i : Int) : List Int := nb3 wd i ++ if i + wd < wd * hg then [i + wd] else []
theorem one_yes {l : List Int} {x : Int} {p : Prop} [Decidable p] (h : p) : (l ++ if p then [x] else []) = l ++ [x] := by rw [if_pos h]
theorem one_no {l : List Int} {x : Int} {p : Prop} [Decidable p] (h : ¬ p) : (l ++ if p then [x] else []) = l := by rw [if_neg h, List.append_nil]
theorem nb1_yes {wd i : Int} (h : wd ≤ i) : nb1 wd i = ([] : List Int) ++ [i - wd] := by unfold nb1; rw [if_pos h]; rfl
theorem nb1_no {wd i : Int} (h : ¬ wd ≤ i) : nb1 wd i = [] := by unfold nb1; rw [if_neg h]
theorem nb1_le (wd i : Int) : (nb1 wd i).length ≤ 1 := by unfold nb1; split <;> simp
theorem nb2_le (wd i : Int) : (nb2 wd i).length ≤ 2 := by have := nb1_le wd i; unfold nb2; rw [List.length_append]; split <;> simp <;> omega
theorem nb3_le (wd i : Int) : (nb3 wd i).length ≤ 3 := by have := nb2_le wd i; unfold nb3; rw [List.length_append]; split <;> simp <;> omega
theorem nb_le (wd hg i : Int) : (nb wd hg i).length ≤ 4 := by have := nb3_le wd i; unfold nb; rw [List.length_append]; split <;> simp <;> omega
theorem own_app1 {w : World} {B : Nat} {v : Value} {acc : List Int} {x : Int} (h : w.ownsRow B 2 1 v (acc.length + 1) (acc.map (Value.int .i64) ++ [.int .i64 x])) :
    w.ownsRow B 2 1 v (acc ++ [x]).length ((acc ++ [x]).map (Value.int .i64)) := by
  simpa using h
theorem own_nil_made (w : World) (t : TypeId) (B : Nat) (hB : B ≤ w.heap.size) : (w.alloc (.cells #[] t)).ownsRow B t 1 (.slice (some ⟨w.heap.size, 0, none⟩) 0 0) 0 [] :=
  World.ownsRow_made w #[] 0 hB (Nat.zero_le _) rfl

set_option maxHeartbeats 4000000 in
set_option maxRecDepth 100000 in
theorem neighbours_any (wd hg i : Int) (w : World) (h1 : 1 ≤ wd) (h2 : wd ≤ 17) (h3 : 1 ≤ hg) (h4 : hg ≤ 17) (h5 : 0 ≤ i) (h6 : i < wd * hg) :
    Calls Try.prog 98 #[.int .i64 wd, .int .i64 hg, .int .i64 i] w fun e w' => (∃ v, e = .returned v ∧ w'.ownsRow w.heap.size 2 1 v (nb wd hg i).length ((nb wd hg i).map (Value.int .i64))) ∧ Below w.heap.size w w' := by
  obtain ⟨i0, hi, hz0, hz1, hz2⟩ := info_parts Try.info2
  obtain ⟨q1, q2⟩ := prod_bd h1 h2 h3 h4
  have r1 : 0 ≤ i % wd := Int.emod_nonneg _ (by omega)
  have r2 : i % wd < wd := Int.emod_lt_of_pos _ (by omega)
  have hwd : ¬ wd = 0 := by omega
  have e1 : (hg - 1) * wd = wd * hg - wd := by rw [Int.sub_mul, Int.mul_comm]; omega
  have E1 := Lib.hid e1
  have q3 : -289 ≤ (hg - 1) * wd ∧ (hg - 1) * wd ≤ 289 := by omega
  clear e1
  obtain ⟨q3, q4⟩ := q3
  have HN : Hid ((w.alloc (.cells #[] 2)).ownsRow w.heap.size 2 1 (.slice (some ⟨w.heap.size, 0, none⟩) 0 0) 0 []) := own_nil_made w 2 _ (Nat.le_refl _)
  have N1 := nb1_le wd i
  have N2 := nb2_le wd i
  have N3 := nb3_le wd i
  go_enter Try.func98, Try.ntmps98
  go_upto_if 11 with fail
  go_cut [7] (fun v wx => wx.ownsRow w.heap.size 2 1 v (nb1 wd i).length ((nb1 wd i).map (Value.int .i64)) ∧ Below w.heap.size w wx)
  case first =>
    have HO := HN
    have HB : Hid (Below w.heap.size w (w.alloc (.cells #[] 2))) := below_new _ _
    by_cases hc : wd ≤ i
    · have HE : Hid (nb1 wd i = ([] : List Int) ++ [i - wd]) := nb1_yes hc
      go_wp2_with (at_builtin; refine wpList_append_own _ rfl (.tmp 12) (.tmp 16) 22 rfl w.heap.size 2 i0 (.int .i64 0) 1 8 Try.underlying22 hi hz0 hz1 hz2 rfl (by decide) _ _ _ rfl (HO.out.alloc _) ⟨w.heap.size + 1, 0, none⟩ 1 1 [.int .i64 (i - wd)] rfl rfl ?_ ?_ ?_ ?_ ?_ ?_)
      all_goals first | done | exact rfl | (simp [go_sem]; done) | (intro u hu; simp at hu; subst hu; rfl) | (unfold maxLen; first | omega | (simp; done) | (simp; omega)) | (first | omega | (simp; done) | (simp; omega)) | (have := HB.out.size; simp at this ⊢; omega) | skip
      intro v' w1 hown' hgrow _
      have HO1 := Lib.hid (own_app1 (acc := ([] : List Int)) (by simpa using hown'))
      have HB1 := Lib.hid ((HB.out.alloc HB.out.size _).grown hgrow (by have := HB.out.size; simp at this ⊢; omega) (fun k hk => (HO.out.lt k hk).1))
      clear hown' hgrow
      go_wp2_with fail
      go_meet
      case rel => exact ⟨by rw [HE.out]; exact HO1.out, HB1.out⟩
    · have HE : Hid (nb1 wd i = ([] : List Int)) := nb1_no hc
      go_wp2_with fail
      go_meet
      case rel => exact ⟨by rw [HE.out]; exact HO.out, HB.out⟩
  case rest =>
  obtain ⟨hoC1, hbC1⟩ := hcut
  obtain ⟨wc1, hwc⟩ : ∃ x, x = wc := ⟨_, rfl⟩
  subst hwc
  have HO := Lib.hid hoC1; have HB := Lib.hid hbC1
  clear hoC1 hbC1 HN
  go_upto_if 21 with fail
  go_cut [7] (fun v wx => wx.ownsRow w.heap.size 2 1 v (nb2 wd i).length ((nb2 wd i).map (Value.int .i64)) ∧ Below w.heap.size w wx)
  case first =>
    by_cases hc : 0 < i % wd
    · have HE : Hid (nb2 wd i = nb1 wd i ++ [i - 1]) := one_yes (by have := E1.out; omega)
      go_wp2_with (at_builtin; refine wpList_append_own _ rfl (.tmp 22) (.tmp 25) 22 rfl w.heap.size 2 i0 (.int .i64 0) 1 8 Try.underlying22 hi hz0 hz1 hz2 rfl (by decide) _ _ _ rfl (HO.out.alloc _) ⟨wc1.heap.size, 0, none⟩ 1 1 [.int .i64 (i - 1)] rfl rfl ?_ ?_ ?_ ?_ ?_ ?_)
      all_goals first | done | exact rfl | (simp [go_sem]; done) | (intro u hu; simp at hu; subst hu; rfl) | (unfold maxLen; first | omega | (simp; done) | (simp; omega)) | (first | omega | (simp; done) | (simp; omega)) | (have := HB.out.size; simp at this ⊢; omega) | skip
      intro v' w1 hown' hgrow _
      have HO1 := Lib.hid (own_app1 (acc := nb1 wd i) (by simpa using hown'))
      have HB1 := Lib.hid ((HB.out.alloc HB.out.size _).grown hgrow (by have := HB.out.size; simp at this ⊢; omega) (fun k hk => (HO.out.lt k hk).1))
      clear hown' hgrow
      go_wp2_with fail
      go_meet
      case rel => exact ⟨by rw [HE.out]; exact HO1.out, HB1.out⟩
    · have HE : Hid (nb2 wd i = nb1 wd i) := one_no (by have := E1.out; omega)
      go_wp2_with fail
      go_meet
      case rel => exact ⟨by rw [HE.out]; exact HO.out, HB.out⟩
  case rest =>
  obtain ⟨hoC2, hbC2⟩ := hcut
  obtain ⟨wc2, hwc⟩ : ∃ x, x = wc := ⟨_, rfl⟩
  subst hwc
  have HO := Lib.hid hoC2; have HB := Lib.hid hbC2
  clear hoC2 hbC2 
  go_upto_if 32 with fail
  go_cut [7] (fun v wx => wx.ownsRow w.heap.size 2 1 v (nb3 wd i).length ((nb3 wd i).map (Value.int .i64)) ∧ Below w.heap.size w wx)
  case first =>
    by_cases hc : i % wd < wd - 1
    · have HE : Hid (nb3 wd i = nb2 wd i ++ [i + 1]) := one_yes (by have := E1.out; omega)
      go_wp2_with (at_builtin; refine wpList_append_own _ rfl (.tmp 33) (.tmp 36) 22 rfl w.heap.size 2 i0 (.int .i64 0) 1 8 Try.underlying22 hi hz0 hz1 hz2 rfl (by decide) _ _ _ rfl (HO.out.alloc _) ⟨wc2.heap.size, 0, none⟩ 1 1 [.int .i64 (i + 1)] rfl rfl ?_ ?_ ?_ ?_ ?_ ?_)
      all_goals first | done | exact rfl | (simp [go_sem]; done) | (intro u hu; simp at hu; subst hu; rfl) | (unfold maxLen; first | omega | (simp; done) | (simp; omega)) | (first | omega | (simp; done) | (simp; omega)) | (have := HB.out.size; simp at this ⊢; omega) | skip
      intro v' w1 hown' hgrow _
      have HO1 := Lib.hid (own_app1 (acc := nb2 wd i) (by simpa using hown'))
      have HB1 := Lib.hid ((HB.out.alloc HB.out.size _).grown hgrow (by have := HB.out.size; simp at this ⊢; omega) (fun k hk => (HO.out.lt k hk).1))
      clear hown' hgrow
      go_wp2_with fail
      go_meet
      case rel => exact ⟨by rw [HE.out]; exact HO1.out, HB1.out⟩
    · have HE : Hid (nb3 wd i = nb2 wd i) := one_no (by have := E1.out; omega)
      go_wp2_with fail
      go_meet
      case rel => exact ⟨by rw [HE.out]; exact HO.out, HB.out⟩
  case rest =>
  obtain ⟨hoC3, hbC3⟩ := hcut
  obtain ⟨wc3, hwc⟩ : ∃ x, x = wc := ⟨_, rfl⟩
  subst hwc
  have HO := Lib.hid hoC3; have HB := Lib.hid hbC3
  clear hoC3 hbC3 
  go_upto_if 43 with fail
  go_cut [7] (fun v wx => wx.ownsRow w.heap.size 2 1 v (nb wd hg i).length ((nb wd hg i).map (Value.int .i64)) ∧ Below w.heap.size w wx)
  case first =>
    by_cases hc : i < (hg - 1) * wd
    · have HE : Hid (nb wd hg i = nb3 wd i ++ [i + wd]) := one_yes (by have := E1.out; omega)
      go_wp2_with (at_builtin; refine wpList_append_own _ rfl (.tmp 44) (.tmp 48) 22 rfl w.heap.size 2 i0 (.int .i64 0) 1 8 Try.underlying22 hi hz0 hz1 hz2 rfl (by decide) _ _ _ rfl (HO.out.alloc _) ⟨wc3.heap.size, 0, none⟩ 1 1 [.int .i64 (i + wd)] rfl rfl ?_ ?_ ?_ ?_ ?_ ?_)
      all_goals first | done | exact rfl | (simp [go_sem]; done) | (intro u hu; simp at hu; subst hu; rfl) | (unfold maxLen; first | omega | (simp; done) | (simp; omega)) | (first | omega | (simp; done) | (simp; omega)) | (have := HB.out.size; simp at this ⊢; omega) | skip
      intro v' w1 hown' hgrow _
      have HO1 := Lib.hid (own_app1 (acc := nb3 wd i) (by simpa using hown'))
      have HB1 := Lib.hid ((HB.out.alloc HB.out.size _).grown hgrow (by have := HB.out.size; simp at this ⊢; omega) (fun k hk => (HO.out.lt k hk).1))
      clear hown' hgrow
      go_wp2_with fail
      go_meet
      case rel => exact ⟨by rw [HE.out]; exact HO1.out, HB1.out⟩
    · have HE : Hid (nb wd hg i = nb3 wd i) := one_no (by have := E1.out; omega)
      go_wp2_with fail
      go_meet
      case rel => exact ⟨by rw [HE.out]; exact HO.out, HB.out⟩
  case rest =>
  obtain ⟨hoC4, hbC4⟩ := hcut
  obtain ⟨wc4, hwc⟩ : ∃ x, x = wc := ⟨_, rfl⟩
  subst hwc
  have HO := Lib.hid hoC4; have HB := Lib.hid hbC4
  clear hoC4 hbC4 
  go_wp2
  go_ret
  exact ⟨⟨_, rfl, HO.out⟩, HB.out⟩
set_option maxHeartbeats 4000000 in
set_option maxRecDepth 100000 in
theorem l05Beside_any (wd hg i : Int) (v : Value) (b : Nat) (w : World) (hx : FBox w b wd hg v) (hbl : b < w.heap.size) (h1 : 1 ≤ wd) (h2 : wd ≤ 17) (h3 : 1 ≤ hg) (h4 : hg ≤ 17) (h5 : 0 ≤ i) (h6 : i < wd * hg) :
    Calls Try.prog 60 #[.pointer (some ⟨b, 0, none⟩), .int .i64 i] w fun e w' => (∃ u, e = .returned u ∧ w'.ownsRow w.heap.size 2 1 u (nb wd hg i).length ((nb wd hg i).map (Value.int .i64))) ∧ Below w.heap.size w w' := by
  obtain ⟨i0, hi, hz0, hz1, hz2⟩ := info_parts Try.info2
  obtain ⟨q1, q2⟩ := prod_bd h1 h2 h3 h4
  have r1 : 0 ≤ i % wd := Int.emod_nonneg _ (by omega)
  have r2 : i % wd < wd := Int.emod_lt_of_pos _ (by omega)
  have hwd : ¬ wd = 0 := by omega
  have HN : Hid ((w.alloc (.cells #[] 2)).ownsRow w.heap.size 2 1 (.slice (some ⟨w.heap.size, 0, none⟩) 0 0) 0 []) := own_nil_made w 2 _ (Nat.le_refl _)
  have N1 := nb1_le wd i
  have N2 := nb2_le wd i
  have N3 := nb3_le wd i
  have HX := Lib.hid hx; clear hx
  have a0 : (w.alloc (.cells #[] 2)).cell? ⟨b, 0, none⟩ = some (.int .i64 wd) := (HX.out.below (below_new w _) hbl).1
  go_enter Try.func60, Try.ntmps60
  go_upto_if 12 with fail
  go_cut [5] (fun u wx => wx.ownsRow w.heap.size 2 1 u (nb1 wd i).length ((nb1 wd i).map (Value.int .i64)) ∧ Below w.heap.size w wx)
  case first =>
    have HO := HN
    have HB : Hid (Below w.heap.size w (w.alloc (.cells #[] 2))) := below_new _ _
    by_cases hc : wd ≤ i
    · have HE : Hid (nb1 wd i = ([] : List Int) ++ [i - wd]) := nb1_yes hc
      go_wp2_with (at_builtin; refine wpList_append_own _ rfl (.tmp 13) (.tmp 20) 22 rfl w.heap.size 2 i0 (.int .i64 0) 1 8 Try.underlying22 hi hz0 hz1 hz2 rfl (by decide) _ _ _ rfl (HO.out.alloc _) ⟨w.heap.size + 1, 0, none⟩ 1 1 [.int .i64 (i - wd)] rfl rfl ?_ ?_ ?_ ?_ ?_ ?_)
      all_goals first | done | exact rfl | (simp [go_sem]; done) | (intro u hu; simp at hu; subst hu; rfl) | (unfold maxLen; first | omega | (simp; done) | (simp; omega)) | (first | omega | (simp; done) | (simp; omega)) | (have := HB.out.size; simp at this ⊢; omega) | skip
      intro v' w1 hown' hgrow _
      have HO1 := Lib.hid (own_app1 (acc := ([] : List Int)) (by simpa using hown'))
      have HB1 := Lib.hid ((HB.out.alloc HB.out.size _).grown hgrow (by have := HB.out.size; simp at this ⊢; omega) (fun k hk => (HO.out.lt k hk).1))
      clear hown' hgrow
      go_wp2_with fail
      go_meet
      case rel => exact ⟨by rw [HE.out]; exact HO1.out, HB1.out⟩
    · have HE : Hid (nb1 wd i = ([] : List Int)) := nb1_no hc
      go_wp2_with fail
      go_meet
      case rel => exact ⟨by rw [HE.out]; exact HO.out, HB.out⟩
  case rest =>
  obtain ⟨hoC1, hbC1⟩ := hcut
  obtain ⟨wc1, hwc⟩ : ∃ x, x = wc := ⟨_, rfl⟩
  subst hwc
  have HO := Lib.hid hoC1; have HB := Lib.hid hbC1
  clear hoC1 hbC1 HN
  obtain ⟨b10, b11, b12⟩ := HX.out.below HB.out hbl
  go_upto_if 28 with fail
  go_cut [5] (fun u wx => wx.ownsRow w.heap.size 2 1 u (nb2 wd i).length ((nb2 wd i).map (Value.int .i64)) ∧ Below w.heap.size w wx)
  case first =>
    by_cases hc : 0 < i % wd
    · have HE : Hid (nb2 wd i = nb1 wd i ++ [i - 1]) := one_yes (by omega)
      go_wp2_with (at_builtin; refine wpList_append_own _ rfl (.tmp 29) (.tmp 32) 22 rfl w.heap.size 2 i0 (.int .i64 0) 1 8 Try.underlying22 hi hz0 hz1 hz2 rfl (by decide) _ _ _ rfl (HO.out.alloc _) ⟨wc1.heap.size, 0, none⟩ 1 1 [.int .i64 (i - 1)] rfl rfl ?_ ?_ ?_ ?_ ?_ ?_)
      all_goals first | done | exact rfl | (simp [go_sem]; done) | (intro u hu; simp at hu; subst hu; rfl) | (unfold maxLen; first | omega | (simp; done) | (simp; omega)) | (first | omega | (simp; done) | (simp; omega)) | (have := HB.out.size; simp at this ⊢; omega) | skip
      intro v' w1 hown' hgrow _
      have HO1 := Lib.hid (own_app1 (acc := nb1 wd i) (by simpa using hown'))
      have HB1 := Lib.hid ((HB.out.alloc HB.out.size _).grown hgrow (by have := HB.out.size; simp at this ⊢; omega) (fun k hk => (HO.out.lt k hk).1))
      clear hown' hgrow
      go_wp2_with fail
      go_meet
      case rel => exact ⟨by rw [HE.out]; exact HO1.out, HB1.out⟩
    · have HE : Hid (nb2 wd i = nb1 wd i) := one_no (by omega)
      go_wp2_with fail
      go_meet
      case rel => exact ⟨by rw [HE.out]; exact HO.out, HB.out⟩
  case rest =>
  obtain ⟨hoC2, hbC2⟩ := hcut
  obtain ⟨wc2, hwc⟩ : ∃ x, x = wc := ⟨_, rfl⟩
  subst hwc
  have HO := Lib.hid hoC2; have HB := Lib.hid hbC2
  clear hoC2 hbC2 
  obtain ⟨b20, b21, b22⟩ := HX.out.below HB.out hbl
  have hd3 : decide (i % wd + 1 < wd) = decide (i % wd + 1 < wd) := rfl
  go_upto_region 6 with fail
  go_quiet (fail)
  obtain ⟨wq2, hwq2⟩ : ∃ x, x = wc2.drewN nq := ⟨_, rfl⟩
  rw [← hwq2]
  have HO := Lib.hid (own_drw HO.out ⟨nq, hwq2⟩)
  have HB := Lib.hid (below_drw HB.out ⟨nq, hwq2⟩)
  clear hwq2 b20 b21 b22
  obtain ⟨b20, b21, b22⟩ := HX.out.below HB.out hbl
  go_upto_if 45 with fail
  go_cut [5] (fun u wx => wx.ownsRow w.heap.size 2 1 u (nb3 wd i).length ((nb3 wd i).map (Value.int .i64)) ∧ Below w.heap.size w wx)
  case first =>
    by_cases hc : i % wd + 1 < wd
    · have HE : Hid (nb3 wd i = nb2 wd i ++ [i + 1]) := one_yes (by omega)
      go_wp2_with (at_builtin; refine wpList_append_own _ rfl (.tmp 46) (.tmp 49) 22 rfl w.heap.size 2 i0 (.int .i64 0) 1 8 Try.underlying22 hi hz0 hz1 hz2 rfl (by decide) _ _ _ rfl (HO.out.alloc _) ⟨wq2.heap.size, 0, none⟩ 1 1 [.int .i64 (i + 1)] rfl rfl ?_ ?_ ?_ ?_ ?_ ?_)
      all_goals first | done | exact rfl | (simp [go_sem]; done) | (intro u hu; simp at hu; subst hu; rfl) | (unfold maxLen; first | omega | (simp; done) | (simp; omega)) | (first | omega | (simp; done) | (simp; omega)) | (have := HB.out.size; simp at this ⊢; omega) | skip
      intro v' w1 hown' hgrow _
      have HO1 := Lib.hid (own_app1 (acc := nb2 wd i) (by simpa using hown'))
      have HB1 := Lib.hid ((HB.out.alloc HB.out.size _).grown hgrow (by have := HB.out.size; simp at this ⊢; omega) (fun k hk => (HO.out.lt k hk).1))
      clear hown' hgrow
      go_wp2_with fail
      go_meet
      case rel => exact ⟨by rw [HE.out]; exact HO1.out, HB1.out⟩
    · have HE : Hid (nb3 wd i = nb2 wd i) := one_no (by omega)
      go_wp2_with fail
      go_meet
      case rel => exact ⟨by rw [HE.out]; exact HO.out, HB.out⟩
  case rest =>
  obtain ⟨hoC3, hbC3⟩ := hcut
  obtain ⟨wc3, hwc⟩ : ∃ x, x = wc := ⟨_, rfl⟩
  subst hwc
  have HO := Lib.hid hoC3; have HB := Lib.hid hbC3
  clear hoC3 hbC3 
  obtain ⟨b30, b31, b32⟩ := HX.out.below HB.out hbl
  go_upto_region 8 with fail
  go_quiet (fail)
  obtain ⟨wq3, hwq3⟩ : ∃ x, x = wc3.drewN nq := ⟨_, rfl⟩
  rw [← hwq3]
  have HO := Lib.hid (own_drw HO.out ⟨nq, hwq3⟩)
  have HB := Lib.hid (below_drw HB.out ⟨nq, hwq3⟩)
  clear hwq3 b30 b31 b32
  obtain ⟨b30, b31, b32⟩ := HX.out.below HB.out hbl
  go_upto_if 66 with fail
  go_cut [5] (fun u wx => wx.ownsRow w.heap.size 2 1 u (nb wd hg i).length ((nb wd hg i).map (Value.int .i64)) ∧ Below w.heap.size w wx)
  case first =>
    by_cases hc : i + wd < wd * hg
    · have HE : Hid (nb wd hg i = nb3 wd i ++ [i + wd]) := one_yes (by omega)
      go_wp2_with (at_builtin; refine wpList_append_own _ rfl (.tmp 67) (.tmp 74) 22 rfl w.heap.size 2 i0 (.int .i64 0) 1 8 Try.underlying22 hi hz0 hz1 hz2 rfl (by decide) _ _ _ rfl (HO.out.alloc _) ⟨wq3.heap.size, 0, none⟩ 1 1 [.int .i64 (i + wd)] rfl rfl ?_ ?_ ?_ ?_ ?_ ?_)
      all_goals first | done | exact rfl | (simp [go_sem]; done) | (intro u hu; simp at hu; subst hu; rfl) | (unfold maxLen; first | omega | (simp; done) | (simp; omega)) | (first | omega | (simp; done) | (simp; omega)) | (have := HB.out.size; simp at this ⊢; omega) | skip
      intro v' w1 hown' hgrow _
      have HO1 := Lib.hid (own_app1 (acc := nb3 wd i) (by simpa using hown'))
      have HB1 := Lib.hid ((HB.out.alloc HB.out.size _).grown hgrow (by have := HB.out.size; simp at this ⊢; omega) (fun k hk => (HO.out.lt k hk).1))
      clear hown' hgrow
      go_wp2_with fail
      go_meet
      case rel => exact ⟨by rw [HE.out]; exact HO1.out, HB1.out⟩
    · have HE : Hid (nb wd hg i = nb3 wd i) := one_no (by omega)
      go_wp2_with fail
      go_meet
      case rel => exact ⟨by rw [HE.out]; exact HO.out, HB.out⟩
  case rest =>
  obtain ⟨hoC4, hbC4⟩ := hcut
  obtain ⟨wc4, hwc⟩ : ∃ x, x = wc := ⟨_, rfl⟩
  subst hwc
  have HO := Lib.hid hoC4; have HB := Lib.hid hbC4
  clear hoC4 hbC4 
  go_wp2
  go_ret
  exact ⟨⟨_, rfl, HO.out⟩, HB.out⟩

end Go.Proofs.Ytcpimcjmckljfaa
