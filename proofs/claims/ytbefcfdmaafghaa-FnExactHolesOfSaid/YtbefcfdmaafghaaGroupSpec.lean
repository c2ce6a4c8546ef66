/- Groups of cells, the reference's way: a list of the cells in the order in which they are reached. -/
import Derived.Test.YtbefcfdmaafghaaGroupImpl
namespace Go.Proofs.Ytbefcfdmaafghaa
open Go.RowKit
theorem rep_snoc (k : Nat) : (List.replicate k (-1 : Int)) ++ [(-1 : Int)] = List.replicate (k + 1) (-1) := by
  rw [List.replicate_succ']
set_option maxHeartbeats 8000000 in
set_option maxRecDepth 100000 in
theorem l07Groups_any (wd hg : Int) (A : Option Addr) (n c b : Nat) (bs : List Bool) (w : World) (hn : bs.length = n) (hr : Rd w w.heap.size A (bs.map Value.bool)) (hx : FBox w b wd hg (.slice A n c)) (hbw : b < w.heap.size)
    (h1 : 1 ≤ wd) (h2 : wd ≤ 16) (h3 : 1 ≤ hg) (h4 : hg ≤ 16) (h5 : (n : Int) = wd * hg) :
    Calls Try.prog 110 #[.pointer (some ⟨b, 0, none⟩), .bool false] w fun e w' => GivesGr w.heap.size n (grp (nb wd hg) (freeB bs) n n) e w' ∧ Below w.heap.size w w' := by
  obtain ⟨q1, q2⟩ := prod_bd h1 h2 h3 h4
  have n0 : 0 < n := by omega
  have n1 : n ≤ 256 := by omega
  obtain ⟨i0, hi, hz0, hz1, hz2⟩ := info_parts Try.info2
  have H5 := Lib.hid h5
  have Hr := Lib.hid hr
  have Hn := Lib.hid hn
  have HX := Lib.hid hx
  have HNB : Hid (∀ a : Int, 0 ≤ a → a < n → ∀ x ∈ nb wd hg a, 0 ≤ x ∧ x < n) := Lib.hid (fun a a0 a1 x hx => by have := nb_mem (hg := hg) h1 a0 (by omega) x hx; omega)
  have N0 := Lib.hid (own_nil_made w 2 w.heap.size (Nat.le_refl _))
  have B0 := Lib.hid (below_new w (.cells #[] 2))
  obtain ⟨fr, hfr⟩ : ∃ fr, fr = freeB bs := ⟨_, rfl⟩
  have HFR := Lib.hid hfr
  rw [← hfr]
  obtain ⟨k0, k1, k2⟩ := hx
  clear hn hr h5 hfr
  go_enter Try.func110, Try.ntmps110
  go_wp2_with fail
  go_loopw [6, 20] (fun v i wr => ∃ (k : Nat) (l : List Int), k ≤ n ∧ i = .int .i64 k ∧ Hid (l = List.replicate k (-1 : Int)) ∧ Hid (l.length = k) ∧ wr.ownsRow w.heap.size 2 1 v l.length (l.map (Value.int .i64)) ∧ Below w.heap.size w wr) (fun _ i _ => n - (intOf i).toNat)
  case atStart => exact ⟨0, [], Nat.zero_le _, rfl, Lib.hid rfl, Lib.hid rfl, N0.out, B0.out⟩
  case round =>
    obtain ⟨k, l, hk, rfl, HLR, HLL, ho, hb⟩ := hrel
    have HO := Lib.hid ho
    have HB := Lib.hid hb
    clear ho hb
    have hll := HLL.out
    have hll2 : l.length ≤ 256 := by omega
    clear hll
    by_cases hlt : k < n
    · obtain ⟨Av, cv, rfl, _⟩ := own_shape HO.out
      have hzw := HB.out.size
      go_wp2_with (at_builtin; go_must (refine wpList_append_own _ rfl (.tmp 22) (.tmp 23) 66 rfl w.heap.size 2 i0 (.int .i64 0) 1 8 Try.underlying66 hi hz0 hz1 hz2 rfl (by decide) _ _ _ rfl (HO.out.alloc _) ⟨wr.heap.size, 0, none⟩ 1 1 [.int .i64 (-1)] rfl rfl (new1 wr _ 2) (one1 _ _) ?_ ?_ ?_ ?_))
      · unfold maxLen; omega
      · omega
      · simp; omega
      intro v' w7 hown' hgrow _
      have HO7 := Lib.hid (own_app1 hown')
      have HB7 := Lib.hid ((HB.out.alloc (by omega) (.cells #[.int .i64 (-1)] 2)).grown hgrow (by simp; omega) (fun q hq => (HO.out.lt q hq).1))
      clear hown' hgrow
      go_wp2
      go_roundw
      case rel => exact ⟨k + 1, l ++ [-1], by omega, by go_num, Lib.hid (by rw [HLR.out, rep_snoc]), Lib.hid (by rw [List.length_append, HLL.out]; rfl), HO7.out, HB7.out⟩
      case measure => simp [intOf]; omega
    · obtain rfl : n = k := by omega
      have hO := HO.out
      rw [HLL.out] at hO
      obtain ⟨G, cp, rfl, hcp, hcm, hGw, hGr⟩ := own_some hO n0
      have O1 := Lib.hid hO
      obtain ⟨w1, rfl⟩ : ∃ w1 : World, w1 = wr := ⟨_, rfl⟩
      have HX1 := HX.out.below HB.out hbw
      obtain ⟨j0, j1, j2⟩ := id HX1
      have X1 := Lib.hid HX1
      have hbw1 : b < w1.heap.size := by have := HB.out.size; omega
      have R1 := Lib.hid ((Hr.out.below HB.out).more HB.out.size)
      have O2 := Lib.hid (O1.out.alloc (.cells #[] 2))
      have B2 := Lib.hid (HB.out.alloc (by omega) (.cells #[] 2))
      have HLR2 : Hid (l = (grp (nb wd hg) fr n 0).1) := Lib.hid (by rw [HLR.out]; rfl)
      have N2 := Lib.hid (own_nil_made w1 2 w1.heap.size (Nat.le_refl _))
      clear hO HO O1 HX1 k0 k1 k2 HB
      go_wp2_with fail
      have hw01 : w.heap.size < w1.heap.size := by omega
      clear j0 j1 j2 HLR HLL hll2
      go_loopw [7, 32] (fun v i wr => ∃ (k : Nat) (xs : List Int), k ≤ n ∧ i = .int .i64 k ∧ xs.length = (grp (nb wd hg) fr n k).2 ∧ wr.ownsRow w1.heap.size 2 1 v xs.length (xs.map (Value.int .i64)) ∧ wr.ownsRow w.heap.size 2 1 (.slice (some ⟨G, 0, none⟩) n cp) n ((grp (nb wd hg) fr n k).1.map (Value.int .i64)) ∧ Below w.heap.size w wr ∧ w1.heap.size < wr.heap.size) (fun _ i _ => n - (intOf i).toNat)
      case atStart => exact ⟨0, [], Nat.zero_le _, rfl, rfl, N2.out, by rw [← HLR2.out]; exact O2.out, B2.out, by simp⟩
      case round =>
        obtain ⟨k, xs, hk, rfl, hxs, hv, ho, hb, hzr⟩ := hrel
        obtain ⟨wo, rfl⟩ : ∃ wo : World, wo = wr := ⟨_, rfl⟩
        have HV := Lib.hid hv
        have HO := Lib.hid ho
        have HB := Lib.hid hb
        have HXS := Lib.hid hxs
        have hxn : xs.length ≤ k := by rw [hxs]; exact grp_le _ _ _ _
        have hol : (grp (nb wd hg) fr n k).1.length = n := grp_len _ _ _ _
        have HOL := Lib.hid hol
        clear hv ho hb hxs hol
        by_cases hlt : k < n
        · have hcO := ownI_cell (j := k) HO.out hlt HOL.out
          obtain ⟨xk, hxk⟩ : ∃ xk, xk = (grp (nb wd hg) fr n k).1.getD k 0 := ⟨_, rfl⟩
          rw [← hxk] at hcO
          have XO := Lib.hid (HX.out.below HB.out hbw)
          have RO := Lib.hid ((Hr.out.below HB.out).more HB.out.size)
          have hbo : b < wo.heap.size := by have := HB.out.size; omega
          obtain ⟨k0, k1, k2⟩ := XO.out
          by_cases hneg : xk < 0
          · have hnl : noL (grp (nb wd hg) fr n k).1 (k : Int) = true := noL_nat (by rw [← hxk]; simpa using hneg)
            have hd0 : decide (0 ≤ xk) = false := by simpa using hneg
            obtain ⟨hkl, hkf⟩ := full_get (bs := bs) (x := (k : Int)) Hn.out (by omega) (by omega)
            obtain ⟨ad, rfl, _, hz⟩ := RO.out.at_ (k := k) (by rw [List.length_map]; exact hkl)
            rw [List.getElem_map] at hz
            rw [show bs[k] = full bs (k : Int) from hkf.symm] at hz
            have hfe : fr (k : Int) = !full bs (k : Int) := by rw [HFR.out]; rfl
            cases hfb : full bs (k : Int)
            · rw [hfb] at hz hfe
              have HS : Hid (grp (nb wd hg) fr n (k + 1) = (fillC (nb wd hg) fr (grp (nb wd hg) fr n k).1 k xs.length, xs.length + 1)) := Lib.hid (by rw [HXS.out]; exact grp_yes hfe hnl)
              have HNL := Lib.hid hnl
              obtain ⟨Av, cv, rfl, _⟩ := own_shape HV.out
              have hfo := HO.out.frozenAt k
              clear hfe hfb hkf hxk hnl
              go_wp2_with fail
              obtain ⟨W8, hW8⟩ : ∃ W8, W8 = (wo.setCell ⟨G, k, none⟩ (.int .i64 xs.length)).alloc (.cells #[.int .i64 k] 2) := ⟨_, rfl⟩
              rw [← hW8]
              have hs7 : (wo.setCell ⟨G, k, none⟩ (.int .i64 xs.length)).heap.size = wo.heap.size := World.size_setCell ..
              have hst := setI_stored (j := k) (x := (xs.length : Int)) HO.out
              have O8 : Hid (W8.ownsRow w.heap.size 2 1 (.slice (some ⟨G, 0, none⟩) n cp) n (((grp (nb wd hg) fr n k).1.set k xs.length).map (Value.int .i64))) := Lib.hid (by rw [hW8]; exact hst.1.alloc _)
              have V8 : Hid (W8.ownsRow w1.heap.size 2 1 (.slice Av xs.length cv) xs.length (xs.map (Value.int .i64))) := Lib.hid (by rw [hW8]; exact (HV.out.kept hst.2 (.inr fun he => ownI_off HV.out G (by omega) he.symm)).alloc _)
              have L8 : Hid (W8.ownsRow wo.heap.size 2 1 (.slice (some ⟨wo.heap.size, 0, none⟩) 1 1) (([] ++ [(k : Int)]) : List Int).length ((([] ++ [(k : Int)]) : List Int).map (Value.int .i64))) := Lib.hid (by
                have h := ownI_one (wo.setCell ⟨G, k, none⟩ (.int .i64 xs.length)) k wo.heap.size (by omega)
                rw [hs7] at h
                rw [hW8]; exact h)
              have B8 : Hid (Below w.heap.size w W8) := Lib.hid (by rw [hW8]; exact (HB.out.setCell (p := ⟨G, k, none⟩) (by show w.heap.size ≤ G; omega) _).alloc (by rw [hs7]; omega) _)
              have hz8 : wo.heap.size < W8.heap.size := by rw [hW8]; simp [hs7]
              have hvo := HV.out.lt
              obtain ⟨O, hO⟩ : ∃ O, O = (grp (nb wd hg) fr n k).1 := ⟨_, rfl⟩
              rw [← hO] at O8 HNL HOL HS
              have HF0 := Lib.hid (flood_start (nbf := nb wd hg) (fr := fr) (out0 := O) (i := (k : Int)) (g := (xs.length : Int)) (by omega) HNL.out (by omega))
              have hun : unl (O.set k xs.length) + 1 = unl O := unl_set (k := (k : Int)) HNL.out (by omega)
              have hun2 : unl (O.set k xs.length) + 1 ≤ n := by have := unl_le O; have := HOL.out; omega
              have HVO := Lib.hid hvo
              clear hW8 hs7 hst hfo hO hz hcO HV HO HB hun k0 k1 k2 XO RO hvo
              go_loopg [10, 11] (unl (O.set k xs.length) + 1) (fun gk v i wx => ∃ (o pre pend : List Int), i = .int .i64 pre.length ∧ Hid (gk = unl o + pend.length) ∧ unl o + pre.length + pend.length ≤ n ∧ Hid (Flood (nb wd hg) fr O k xs.length o pend) ∧ wx.ownsRow wo.heap.size 2 1 v (pre ++ pend).length ((pre ++ pend).map (Value.int .i64)) ∧ wx.ownsRow w.heap.size 2 1 (.slice (some ⟨G, 0, none⟩) n cp) n (o.map (Value.int .i64)) ∧ wx.ownsRow w1.heap.size 2 1 (.slice Av xs.length cv) xs.length (xs.map (Value.int .i64)) ∧ Below w.heap.size w wx ∧ wo.heap.size < wx.heap.size)
              case atStart => exact ⟨_, [], [(k : Int)], rfl, Lib.hid rfl, by simp; omega, HF0, L8.out, O8.out, V8.out, B8.out, hz8⟩
              case round =>
                obtain ⟨o, pre, pend, rfl, HG, hgn, HF, hl, ho, hv, hb, hzx⟩ := hrel
                have HL := Lib.hid hl
                have HO := Lib.hid ho
                have HV := Lib.hid hv
                have HB := Lib.hid hb
                obtain ⟨wp, rfl⟩ : ∃ wp : World, wp = wr := ⟨_, rfl⟩
                clear hl ho hv hb
                rcases pend with _ | ⟨a, p'⟩
                · obtain ⟨A2, c2, rfl, _⟩ := own_shape HL.out
                  have HFE := Lib.hid (flood_end (by omega) HNL.out (by omega) (fun j j0 j1 => by rw [HOL.out]; exact HNB.out j j0 (by rw [HOL.out] at j1; exact j1)) HF.out)
                  rw [List.append_nil]
                  simp only [List.length_nil] at hgn
                  go_wp2_with (at_builtin; go_must (refine wpList_append_own _ rfl (.tmp 120) (.tmp 123) 66 rfl w1.heap.size 2 i0 (.int .i64 0) 1 8 Try.underlying66 hi hz0 hz1 hz2 rfl (by decide) _ _ _ rfl (HV.out.alloc _) ⟨wp.heap.size, 0, none⟩ 1 1 [.int .i64 pre.length] rfl rfl (new1 wp _ 2) (one1 _ _) ?_ ?_ ?_ ?_))
                  · unfold maxLen; omega
                  · omega
                  · simp; omega
                  intro v' w7 hown' hgrow _
                  have HE7 := Lib.hid (own_app1 hown')
                  have HO7 := Lib.hid ((HO.out.alloc (.cells #[.int .i64 pre.length] 2)).kept hgrow (.inr fun he => ownI_off HV.out G (by omega) he))
                  have HB7 := Lib.hid ((HB.out.alloc (by omega) (.cells #[.int .i64 pre.length] 2)).grown hgrow (by simp; omega) (fun q hq => by have := (HV.out.lt q hq).1; omega))
                  have hz7 : w1.heap.size < w7.heap.size := by have := hgrow.size; simp at this; omega
                  clear hown' hgrow
                  go_wp2
                  go_roundw
                  case rel => exact ⟨k + 1, xs ++ [(pre.length : Int)], by omega, by go_num, by rw [HS.out, List.length_append]; rfl, HE7.out, by rw [HS.out, ← HFE.out]; exact HO7.out, HB7.out, hz7⟩
                  case measure => simp [intOf]; omega
                · have hll : (pre ++ a :: p').length = pre.length + (p'.length + 1) := by simp
                  simp only [List.length_cons] at hgn
                  obtain ⟨m, hm⟩ : ∃ m, m = (pre ++ a :: p').length := ⟨_, rfl⟩
                  have hL := HL.out
                  rw [← hm] at hL
                  obtain ⟨gl, cpl, rfl, hcpl, hcml, hgl1, hgl2⟩ := own_some hL (by omega)
                  have hca : wp.cell? ⟨gl, pre.length, none⟩ = some (.int .i64 a) := by rw [hL.cellAt pre.length (by omega)]; simp
                  have hL2 := hL
                  rw [show pre ++ a :: p' = (pre ++ [a]) ++ p' by simp] at hL2
                  have HL2 := Lib.hid hL2
                  obtain ⟨a0, a1, _, _⟩ := HF.out.pends a (by simp)
                  rw [HOL.out] at a1
                  have hpm : pre.length < m := by omega
                  have HM1 : Hid (m = ((pre ++ [a]) ++ p').length) := Lib.hid (by rw [hm]; simp)
                  have HCN := Lib.hid (l07Beside_any wd hg a wp.drew h1 h2 h3 h4 a0 (by rw [← H5.out]; exact a1))
                  obtain ⟨k0, k1, k2⟩ := HX.out.below HB.out hbw
                  have hmn : m ≤ n := by omega
                  clear hll hL hL2 hm HL
                  go_wp2_with fail
                  go_still_tail 12, (by kernel_rfl)
                  change wpList _ _ _ _ _ wp.drew
                  go_wp2_with fail
                  refine HCN.out.mono ?_
                  rintro e w9 ⟨⟨vn, rfl, hon⟩, hbd9⟩
                  obtain ⟨An, cn, rfl, _⟩ := own_shape hon
                  have hb9 := undrew hbd9
                  have hzz9 := hb9.size
                  have O9 := Lib.hid (own_next HO.out hb9)
                  have L9 := Lib.hid (own_next HL2.out hb9)
                  have V9 := Lib.hid (own_next HV.out hb9)
                  have B9 := Lib.hid (bthen HB.out (hb9.mono (by omega)))
                  have hon' : w9.ownsRow wp.heap.size 2 1 (.slice An (nb wd hg a).length cn) (nb wd hg a).length ((nb wd hg a).map (Value.int .i64)) := hon
                  have N9 := Lib.hid hon'
                  have hnl := nb_le wd hg a
                  have HM := Lib.hid (HNB.out a a0 a1)
                  have hNE : (Value.slice An (nb wd hg a).length cn).ownBlock = none ∨ (Value.slice An (nb wd hg a).length cn).ownBlock ≠ (Value.slice (some ⟨gl, 0, none⟩) m cpl).ownBlock := .inr fun he => by
                    have := (hon'.lt gl he).1
                    omega
                  have HNE := Lib.hid hNE
                  obtain ⟨S, hS⟩ : ∃ S : Nat → List Int × List Int, S = fun j => ((nb wd hg a).take j).foldl (visit fr xs.length) (o, p') := ⟨_, rfl⟩
                  have HS0 : Hid (S 0 = (o, p')) := Lib.hid (by rw [hS]; rfl)
                  have HSS : Hid (∀ j (h : j < (nb wd hg a).length), S (j + 1) = visit fr xs.length (S j) (nb wd hg a)[j]) := Lib.hid (fun j h => by rw [hS]; exact visits_snoc _ _ _ _ _ h)
                  have HSL : Hid (∀ j, (S j).1.length = n) := Lib.hid (fun j => by rw [hS]; show (List.foldl (visit fr xs.length) (o, p') ((nb wd hg a).take j)).1.length = n; rw [visits_len]; show o.length = n; rw [HF.out.len]; exact HOL.out)
                  have HSU : Hid (∀ j, unl (S j).1 + (S j).2.length = unl o + p'.length) := Lib.hid (fun j => by rw [hS]; exact visits_sum (by omega) _ _)
                  have HSE : Hid (Flood (nb wd hg) fr O k xs.length (S (nb wd hg a).length).1 (S (nb wd hg a).length).2) := Lib.hid (by rw [hS]; show Flood _ _ _ _ _ (List.foldl (visit fr xs.length) (o, p') ((nb wd hg a).take (nb wd hg a).length)).1 (List.foldl (visit fr xs.length) (o, p') ((nb wd hg a).take (nb wd hg a).length)).2; rw [List.take_of_length_le (Nat.le_refl _)]; exact flood_step (by omega) (fun x hx => by rw [HOL.out]; exact HM.out x hx) HF.out)
                  obtain ⟨nbs, hnbs⟩ : ∃ nbs, nbs = nb wd hg a := ⟨_, rfl⟩
                  rw [← hnbs] at N9 hnl HM HNE HSS HSE ⊢
                  have HGN := Lib.hid hgn
                  have hgx : unl o + (pre.length + 1) + p'.length ≤ n := by omega
                  obtain ⟨pr, hpr⟩ : ∃ pr, pr = pre ++ [a] := ⟨_, rfl⟩
                  have hprl : pr.length = pre.length + 1 := by rw [hpr]; simp
                  rw [← hpr] at L9 HM1
                  have HPR := Lib.hid hprl
                  have HMP := Lib.hid (show m ≤ n ∧ pre.length < m from ⟨hmn, hpm⟩)
                  clear hon hon' hb9 hbd9 hNE hS hnbs HV HO HL2 HF HB HCN hpr hprl hca hpm hmn hcpl k0 k1 k2
                  have hpl : pr.length ≤ 256 := by have := HPR.out; omega
                  go_wp2_with fail
                  go_loopw [10, 80] (fun v i wy => ∃ j : Nat, j ≤ nbs.length ∧ i = .int .i64 j ∧ wy.ownsRow wo.heap.size 2 1 v (pr ++ (S j).2).length ((pr ++ (S j).2).map (Value.int .i64)) ∧ wy.ownsRow w.heap.size 2 1 (.slice (some ⟨G, 0, none⟩) n cp) n ((S j).1.map (Value.int .i64)) ∧ wy.ownsRow w1.heap.size 2 1 (.slice Av xs.length cv) xs.length (xs.map (Value.int .i64)) ∧ wy.ownsRow wp.heap.size 2 1 (.slice An nbs.length cn) nbs.length (nbs.map (Value.int .i64)) ∧ Hid ((Value.slice An nbs.length cn).ownBlock = none ∨ (Value.slice An nbs.length cn).ownBlock ≠ v.ownBlock) ∧ Below w.heap.size w wy ∧ wo.heap.size < wy.heap.size) (fun _ i _ => nbs.length - (intOf i).toNat)
                  case atStart => exact ⟨0, Nat.zero_le _, rfl, by rw [HS0.out]; show World.ownsRow _ _ _ _ _ (pr ++ p').length (List.map _ (pr ++ p')); rw [← HM1.out]; exact L9.out, by rw [HS0.out]; exact O9.out, V9.out, N9.out, HNE, B9.out, by omega⟩
                  case round =>
                    obtain ⟨j, hj, rfl, hl, ho, hv, hn, HNEj, hb, hzy⟩ := hrel
                    obtain ⟨wy, rfl⟩ : ∃ wy : World, wy = wr := ⟨_, rfl⟩
                    have HL := Lib.hid hl
                    have HO := Lib.hid ho
                    have HV := Lib.hid hv
                    have HN := Lib.hid hn
                    have HB := Lib.hid hb
                    have hsu := HSU.out j
                    have HSLj := Lib.hid (HSL.out j)
                    have hsj : (S j).2.length ≤ 256 := by omega
                    clear hl ho hv hn hb hsu
                    by_cases hjl : j < nbs.length
                    · obtain ⟨ad9, rfl, _, hcx⟩ := (Rd.own HN.out).at_ (k := j) (by simpa using hjl)
                      rw [List.getElem_map] at hcx
                      have hSj := HSS.out j hjl
                      obtain ⟨x0, x1⟩ := HM.out _ (List.getElem_mem hjl)
                      obtain ⟨x, hx⟩ : ∃ x, x = nbs[j] := ⟨_, rfl⟩
                      rw [← hx] at hcx hSj x0 x1
                      obtain ⟨k0, k1, k2⟩ := HX.out.below HB.out hbw
                      have RY := Lib.hid ((Hr.out.below HB.out).more HB.out.size)
                      obtain ⟨hxl, hxf⟩ := full_get (bs := bs) Hn.out x0 x1
                      obtain ⟨ad8, had8, _, hz⟩ := RY.out.at_ (k := x.toNat) (by rw [List.length_map]; exact hxl)
                      obtain rfl : ad = ad8 := Option.some.inj had8
                      rw [List.getElem_map, ← hxf] at hz
                      have hfe : fr x = !full bs x := by rw [HFR.out]; rfl
                      have hcz := ownI_cell (j := x.toNat) HO.out (by omega) HSLj.out
                      obtain ⟨z, hzz⟩ : ∃ z, z = (S j).1.getD x.toNat 0 := ⟨_, rfl⟩
                      rw [← hzz] at hcz
                      cases hfx : full bs x
                      · rw [hfx] at hz hfe
                        by_cases hneg : z < 0
                        · have hnl : noL (S j).1 x = true := by unfold noL; rw [← hzz]; simpa using hneg
                          rw [visit_yes hfe hnl] at hSj
                          have HSj := Lib.hid hSj
                          have hpa : (pr ++ (S j).2) ++ [x] = pr ++ (S (j + 1)).2 := by rw [hSj, List.append_assoc]
                          obtain ⟨ql, hql⟩ : ∃ ql, ql = pr ++ (S j).2 := ⟨_, rfl⟩
                          have hqll : ql.length ≤ 512 := by rw [hql, List.length_append]; omega
                          rw [← hql] at HL hpa
                          have HPA := Lib.hid hpa
                          clear hpa hql
                          clear hSj hnl hzz hx hfx hfe hxf had8
                          go_wp2
                          go_quiet (fail)
                          obtain ⟨wz, hwz⟩ : ∃ wz, wz = wy.drewN nq := ⟨_, rfl⟩
                          rw [← hwz]
                          have HOz : Hid (wz.ownsRow w.heap.size 2 1 (.slice (some ⟨G, 0, none⟩) n cp) n ((S j).1.map (Value.int .i64))) := Lib.hid (by rw [hwz]; exact HO.out)
                          have HLz : Hid (wz.ownsRow wo.heap.size 2 1 u10 ql.length (ql.map (Value.int .i64))) := Lib.hid (by rw [hwz]; exact HL.out)
                          have HVz : Hid (wz.ownsRow w1.heap.size 2 1 (.slice Av xs.length cv) xs.length (xs.map (Value.int .i64))) := Lib.hid (by rw [hwz]; exact HV.out)
                          have HNz : Hid (wz.ownsRow wp.heap.size 2 1 (.slice (some ad9) nbs.length cn) nbs.length (nbs.map (Value.int .i64))) := Lib.hid (by rw [hwz]; exact HN.out)
                          have HBz : Hid (Below w.heap.size w wz) := Lib.hid (by rw [hwz]; exact below_drewN HB.out _)
                          have hzz : wo.heap.size < wz.heap.size := by rw [hwz]; exact hzy
                          have hcz2 : wz.cell? ⟨G, x.toNat, none⟩ = some (.int .i64 z) := by rw [hwz]; exact hcz
                          have hcx2 : wz.cell? (ad9.add j) = some (.int .i64 x) := by rw [hwz]; exact hcx
                          have hadb : wp.heap.size ≤ ad9.block := (HNz.out.lt ad9.block rfl).1
                          have hcx3 : (wz.setCell ⟨G, x.toNat, none⟩ (.int .i64 xs.length)).cell? (ad9.add j) = some (.int .i64 x) := by
                            rw [World.cell?_setCell_other]
                            · exact hcx2
                            · intro he
                              have h2 : (ad9.add j).block = G := by rw [← he]
                              rw [add_block] at h2
                              omega
                          have hfz := HOz.out.frozenAt x.toNat
                          have hst := setI_stored (j := x.toNat) (x := (xs.length : Int)) HOz.out
                          have hsy : (wz.setCell ⟨G, x.toNat, none⟩ (.int .i64 xs.length)).heap.size = wz.heap.size := World.size_setCell ..
                          have HSY := Lib.hid hsy
                          have HOs := Lib.hid hst.1
                          have HLs := Lib.hid (HLz.out.kept hst.2 (.inr fun he => ownI_off HLz.out G (by omega) he.symm))
                          have HVs := Lib.hid (HVz.out.kept hst.2 (.inr fun he => ownI_off HVz.out G (by omega) he.symm))
                          have HNs := Lib.hid (HNz.out.kept hst.2 (.inr fun he => ownI_off HNz.out G (by omega) he.symm))
                          have HBs := Lib.hid (HBz.out.setCell (p := ⟨G, x.toNat, none⟩) (by show w.heap.size ≤ G; omega) (.int .i64 xs.length))
                          have HN9 : Hid (∀ i u, [Value.int .i64 x][i]? = some u → ((wz.setCell ⟨G, x.toNat, none⟩ (.int .i64 xs.length)).alloc (.cells #[.int .i64 x] 2)).cell? ((⟨wz.heap.size, 0, none⟩ : Addr).add i) = some u) := Lib.hid (by
                            have h9 := new1 (wz.setCell ⟨G, x.toNat, none⟩ (.int .i64 xs.length)) (.int .i64 x) 2
                            rw [hsy] at h9
                            exact h9)
                          have HZ9 : Hid (wo.heap.size ≤ ((wz.setCell ⟨G, x.toNat, none⟩ (.int .i64 xs.length)).alloc (.cells #[.int .i64 x] 2)).heap.size) := Lib.hid (by rw [World.size_alloc, hsy]; omega)
                          have hvo := HVO.out
                          have HVX : Hid ((Value.slice Av xs.length cv).ownBlock = none ∨ (Value.slice Av xs.length cv).ownBlock ≠ u10.ownBlock) := Lib.hid (by
                            rcases hq : (Value.slice Av xs.length cv).ownBlock with _ | q
                            · exact .inl rfl
                            · right
                              intro he
                              exact ownI_off HLz.out q (hvo q hq).2 he)
                          clear hst hsy hwz hvo hcx hcz k0 k1 k2 hz
                          go_wp2_with (at_builtin; go_must (refine wpList_append_own_at _ rfl (.tmp 112) (.tmp 117) 66 rfl wo.heap.size 2 i0 (.int .i64 0) 1 8 Try.underlying66 hi hz0 hz1 hz2 rfl (by decide) _ _ _ rfl (HLs.out.alloc _) ⟨wz.heap.size, 0, none⟩ 1 1 [.int .i64 x] rfl rfl HN9.out (one1 _ _) ?_ ?_ HZ9.out ?_))
                          · unfold maxLen; omega
                          · omega
                          intro v' w10 hown' hgrow _ hat'
                          have HE10 := Lib.hid (own_app1 hown')
                          have HO10 := Lib.hid ((HOs.out.alloc (.cells #[.int .i64 x] 2)).kept hgrow (.inr fun he => ownI_off HLs.out G (by omega) he))
                          have HV10 := Lib.hid ((HVs.out.alloc (.cells #[.int .i64 x] 2)).kept hgrow HVX.out)
                          have HN10 := Lib.hid ((HNs.out.alloc (.cells #[.int .i64 x] 2)).kept hgrow HNEj.out)
                          have hne10 : (Value.slice (some ad9) nbs.length cn).ownBlock = none ∨ (Value.slice (some ad9) nbs.length cn).ownBlock ≠ v'.ownBlock := by
                            rcases hat' with h | h
                            · rw [h]; exact HNEj.out
                            · rw [h]
                              right
                              intro he
                              have h2 := (HNs.out.lt _ he).2
                              rw [HSY.out] at h2
                              omega
                          have HNE10 := Lib.hid hne10
                          have HB10 := Lib.hid ((HBs.out.alloc (by rw [HSY.out]; omega) (.cells #[.int .i64 x] 2)).grown hgrow (by rw [World.size_alloc, HSY.out]; omega) (fun q hq => by have := (HLs.out.lt q hq).1; omega))
                          have hz10 : wo.heap.size < w10.heap.size := by have := hgrow.size; have h3 := HSY.out; rw [World.size_alloc] at this; omega
                          clear hown' hgrow hat' hne10
                          go_wp2
                          go_roundw
                          case rel => exact ⟨j + 1, by omega, by go_num, by rw [← HPA.out]; exact HE10.out, by rw [HSj.out]; exact HO10.out, HV10.out, HN10.out, HNE10, HB10.out, hz10⟩
                          case measure => simp [intOf]; omega
                        · have hnl : noL (S j).1 x = false := by unfold noL; rw [← hzz]; simpa using hneg
                          rw [visit_no (.inr hnl)] at hSj
                          have HSj := Lib.hid hSj
                          clear hSj hnl hzz hx hfx hfe hxf had8
                          go_wp2
                          go_quiet (fail)
                          go_wp2
                          go_roundw
                          case rel => exact ⟨j + 1, by omega, by go_num, by rw [HSj.out]; exact HL.out, by rw [HSj.out]; exact HO.out, HV.out, HN.out, HNEj, below_drewN HB.out _, hzy⟩
                          case measure => simp [intOf]; omega
                      · rw [hfx] at hz hfe
                        rw [visit_no (.inl hfe)] at hSj
                        have HSj := Lib.hid hSj
                        clear hSj hzz hx hfx hfe hxf had8 hcz
                        go_wp2
                        go_quiet (fail)
                        go_wp2
                        go_roundw
                        case rel => exact ⟨j + 1, by omega, by go_num, by rw [HSj.out]; exact HL.out, by rw [HSj.out]; exact HO.out, HV.out, HN.out, HNEj, below_drewN HB.out _, hzy⟩
                        case measure => simp [intOf]; omega
                    · have hjn : j = nbs.length := by omega
                      have hsu := HSU.out nbs.length
                      subst hjn
                      obtain ⟨A2, c2, rfl, _⟩ := own_shape HL.out
                      have hgm : unl (S nbs.length).1 + (S nbs.length).2.length < gk := by have := HG.out; simp only [List.length_cons] at this; omega
                      have hgz : unl (S nbs.length).1 + pr.length + (S nbs.length).2.length ≤ n := by have := HPR.out; omega
                      have HGZ := Lib.hid hgz
                      have HGM := Lib.hid hgm
                      have HPI : Hid ((Value.int .i64 ((pre.length : Int) + 1)) = .int .i64 (pr.length : Int)) := Lib.hid (by rw [HPR.out]; rfl)
                      clear hsu hgm hgz
                      go_wp2
                      go_roundg (unl (S nbs.length).1 + (S nbs.length).2.length)
                      case measure => exact HGM.out
                      case rel => exact ⟨(S nbs.length).1, pr, (S nbs.length).2, HPI.out, Lib.hid rfl, HGZ.out, HSE, HL.out, HO.out, HV.out, HB.out, hzy⟩
            · rw [hfb] at hz hfe
              have HS := Lib.hid (grp_no (nbf := nb wd hg) (n := n) (k := k) (.inl hfe))
              clear hfe hfb hkf hxk hnl
              go_wp2
              go_roundw
              case rel => exact ⟨k + 1, xs, by omega, by go_num, by rw [HS.out]; exact HXS.out, HV.out, by rw [HS.out]; exact HO.out, HB.out, hzr⟩
              case measure => simp [intOf]; omega
          · have hnl : noL (grp (nb wd hg) fr n k).1 (k : Int) = false := noL_nat (by rw [← hxk]; simpa using hneg)
            have HS := Lib.hid (grp_no (nbf := nb wd hg) (n := n) (k := k) (.inr hnl))
            have hd0 : decide (0 ≤ xk) = true := by simpa using hneg
            clear hxk hnl
            go_wp2
            go_roundw
            case rel => exact ⟨k + 1, xs, by omega, by go_num, by rw [HS.out]; exact HXS.out, HV.out, by rw [HS.out]; exact HO.out, HB.out, hzr⟩
            case measure => simp [intOf]; omega
        · obtain rfl : n = k := by omega
          obtain ⟨A2, c2, rfl, _⟩ := own_shape HV.out
          go_wp2
          go_ret2
          exact ⟨⟨_, _, A2, c2, by rw [← HXS.out]; rfl, HO.out⟩, HB.out⟩
end Go.Proofs.Ytbefcfdmaafghaa
