/- InvadeFrom, the reference's way. -/
import Derived.Test.YtbefcfdmaafghaaInvImpl
import Derived.Test.YtbefcfdmaafghaaGrowSpec
namespace Go.Proofs.Ytbefcfdmaafghaa
open Go.RowKit
def lenOf : Value → Nat | .slice _ n _ => n | _ => 0
set_option maxHeartbeats 8000000 in
set_option maxRecDepth 100000 in
theorem specInvade_yes (wd hg : Int) (A : Option Addr) (n c cm : Nat) (a : Int) (ws : List Nat) (w : World) (hn : ws.length = n) (hr : Rd w w.heap.size A (ws.map (Value.float .f32)))
    (hv : wOk wd hg ws = true) (ha0 : 0 ≤ a) (ha1 : a < n) (hcm : cm < n) :
    Calls Try.prog 59 #[.slice A n c, .int .i64 wd, .int .i64 hg, .int .i64 a, .int .i64 ((cm : Int) + 1)] w fun e w' => GivesI w.heap.size (invN wd hg ws cm (startB n a) [a]) true e w' ∧ Below w.heap.size w w' := by
  have hv' := hv
  unfold wOk at hv'
  rw [Bool.and_eq_true, hn] at hv'
  obtain ⟨⟨⟨h1, h2⟩, h3, h4⟩, h5⟩ := vF_iff.1 hv'.1
  obtain ⟨q1, q2⟩ := prod_bd h1 h2 h3 h4
  have n0 : 0 < n := by omega
  have n1 : n ≤ 256 := by omega
  obtain ⟨i0, hi, hz0, hz1, hz2⟩ := info_parts Try.info2
  obtain ⟨b0, bi, bz0, bz1, bz2⟩ := info_parts Try.info4
  have C104 := l07Weights_any wd hg A n c ws w hn (by omega) hr
  rw [hv] at C104
  have HC104 := Lib.hid C104
  have CA := fun W => l00In_any a 0 (wd * hg - 1) W
  rw [inB_t ha0 (by omega)] at CA
  have HCA := Lib.hid CA
  have CC := fun W => l00In_any ((cm : Int) + 1) 1 (wd * hg) W
  rw [inB_t (by omega) (by omega)] at CC
  have HCC := Lib.hid CC
  have Hr := Lib.hid hr; have Hn := Lib.hid hn; have H5 := Lib.hid h5
  have hwr : IntKind.i64.wrap (wd * hg) = wd * hg := IntWalk.i64_in _ (by omega)
  have Hp : Hid (wd * hg = (n : Int)) := Lib.hid h5.symm
  clear C104 CA CC hr hn hv hv' h5
  go_enter Try.func59, Try.ntmps59
  go_wp2_with fail
  refine HC104.out.mono ?_
  rintro e w1 ⟨rfl, hb1⟩
  have B1 := Lib.hid hb1; clear hb1
  go_wp2_with fail
  refine (HCA.out _).mono ?_
  rintro e w' ⟨rfl, rfl⟩
  go_wp2_with fail
  refine (HCC.out _).mono ?_
  rintro e w' ⟨rfl, rfl⟩
  go_wp2_with (at_make; go_must (refine wpList_make_full _ rfl _ _ 22 rfl w1.heap.size 4 b0 (.bool false) 1 Try.underlying22 bi bz0 bz1 _ _ _ _ n rfl rfl Hp.out Hp.out ?_ ?_ ?_ ?_))
  · rw [bz2]; omega
  · unfold maxLen; omega
  · exact Nat.le_refl _
  intro w2 hown hgrow
  have B2 := Lib.hid ((Below.refl w1.heap.size w1).grown hgrow (Nat.le_refl _) (fun k hk => by cases hk))
  have O2 := Lib.hid (made_bools hown)
  have hz2' : w1.heap.size < w2.heap.size := (O2.out.lt _ rfl).2
  clear hown hgrow
  have hat : a.toNat < n := by omega
  have hc0 : w2.cell? ⟨w1.heap.size, a.toNat, none⟩ = some (.bool false) := by
    rw [O2.out.cellAt a.toNat (by omega), List.map_replicate, List.getElem?_replicate, if_pos hat]
  have hf0 := O2.out.frozenAt a.toNat
  have hcw : IntKind.i64.wrap ((cm : Int) + 1 - 1) = (cm : Int) := by rw [IntKind.wrap_i64]; omega
  go_wp2_with fail
  obtain ⟨W5, hW5⟩ : ∃ W5, W5 = ((w2.setCell ⟨w1.heap.size, a.toNat, none⟩ (.bool true)).alloc (.cells #[.int .i64 wd, .int .i64 hg, .slice (some ⟨w1.heap.size, 0, none⟩) n n] 27)).alloc (.cells #[.int .i64 a] 2) := ⟨_, rfl⟩
  rw [← hW5]
  have hst := O2.out.stored a.toNat (.bool true)
  rw [← List.map_set] at hst
  have O5 : Hid (W5.ownsRow w1.heap.size 4 1 (.slice (some ⟨w1.heap.size, 0, none⟩) n n) n ((startB n a).map Value.bool)) := Lib.hid (by rw [hW5]; exact (hst.1.alloc _).alloc _)
  have hs2 : (w2.setCell ⟨w1.heap.size, a.toNat, none⟩ (.bool true)).heap.size = w2.heap.size := World.size_setCell ..
  have hz5 : W5.heap.size = w2.heap.size + 2 := by rw [hW5, World.size_alloc, World.size_alloc, hs2]
  have K5 : Hid (FBox W5 w2.heap.size wd hg (.slice (some ⟨w1.heap.size, 0, none⟩) n n)) := Lib.hid (by
    have hk := FBox.new (w2.setCell ⟨w1.heap.size, a.toNat, none⟩ (.bool true)) 27 wd hg (.slice (some ⟨w1.heap.size, 0, none⟩) n n)
    rw [hs2] at hk
    rw [hW5]
    exact hk.below (below_new _ _) (by rw [World.size_alloc, hs2]; omega))
  have L5 : Hid (W5.ownsRow (w2.heap.size + 1) 2 1 (.slice (some ⟨w2.heap.size + 1, 0, none⟩) 1 1) ([a] : List Int).length (([a] : List Int).map (Value.int .i64))) := Lib.hid (by
    have hl := own_one ((w2.setCell ⟨w1.heap.size, a.toNat, none⟩ (.bool true)).alloc (.cells #[.int .i64 wd, .int .i64 hg, .slice (some ⟨w1.heap.size, 0, none⟩) n n] 27)) a (w2.heap.size + 1) (by rw [World.size_alloc, hs2]; omega)
    rw [World.size_alloc, hs2] at hl
    rw [hW5]
    exact hl)
  have B5 : Hid (Below w.heap.size w W5) := Lib.hid (by
    rw [hW5]
    have h0 := B1.out.size
    exact (((B1.out.trans (B2.out.mono h0)).setCell (p := ⟨w1.heap.size, a.toNat, none⟩) h0 _).alloc (by rw [World.size_setCell]; omega) _).alloc (by rw [World.size_alloc, World.size_setCell]; omega) _)
  have hzz1 := B1.out.size
  have hn0 := start_cnt hat
  have hnl := start_len n a
  have hz5' : w2.heap.size + 1 < W5.heap.size := by omega
  have HZ5 := Lib.hid hz5
  have HNL := Lib.hid hnl
  have HN0 := Lib.hid hn0
  clear hW5 hst hs2 hz5 hc0 hf0 hn0 hnl B2 O2
  go_loopw [13] (fun v wr => ∃ (j : Nat) (bj : List Bool) (acc : List Int), j ≤ cm ∧ lenOf v = j + 1 ∧ bj.length = n ∧ cntT bj = j + 1 ∧ acc.length = j + 1 ∧ Hid (invN wd hg ws cm (startB n a) [a] = invN wd hg ws (cm - j) bj acc) ∧ wr.ownsRow (w2.heap.size + 1) 2 1 v acc.length (acc.map (Value.int .i64)) ∧ wr.ownsRow w1.heap.size 4 1 (.slice (some ⟨w1.heap.size, 0, none⟩) n n) n (bj.map Value.bool) ∧ FBox wr w2.heap.size wd hg (.slice (some ⟨w1.heap.size, 0, none⟩) n n) ∧ Below w.heap.size w wr ∧ w2.heap.size + 1 < wr.heap.size) (fun v _ => cm + 1 - lenOf v)
  case atStart => exact ⟨0, startB n a, [a], Nat.zero_le _, rfl, HNL.out, HN0.out, rfl, Lib.hid (by rw [Nat.sub_zero]), L5.out, O5.out, K5.out, B5.out, hz5'⟩
  case round =>
    obtain ⟨j, bj, acc, hj, hlv, hbj, hcnt, hacc, HI, hl, ho, hkx, hb, hzr⟩ := hrel
    obtain ⟨A3, c3, rfl, _⟩ := own_shape hl
    clear hlv
    have hal : (acc.length : Int) = (j : Int) + 1 := by omega
    obtain ⟨wo, rfl⟩ : ∃ wo : World, wo = wr := ⟨_, rfl⟩
    have HL := Lib.hid hl
    have HO := Lib.hid ho
    have HK := Lib.hid hkx
    have HB := Lib.hid hb
    have Hbj := Lib.hid hbj
    have Hcnt := Lib.hid hcnt
    have Hacc := Lib.hid hacc
    have haccb : acc.length ≤ 256 := by omega
    have Hal := Lib.hid hal
    clear hl ho hkx hb hbj hcnt hacc hal
    by_cases hlt : j < cm
    · have hjt : (acc.length : Int) < (cm : Int) + 1 := by rw [Hal.out]; omega
      have hcap : acc.length ≤ 9223372036854775807 := by omega
      go_wp2_with fail
      have RO := Lib.hid (Rd.own HO.out)
      have hw4 : w2.heap.size < wo.heap.size := by omega
      have TO : Hid (ltouchesC wd hg n w2.heap.size bj) := Lib.hid (fun W A c k h6 hr hx hb => l07Touches_any wd hg k A n c w2.heap.size bj W Hbj.out h1 h2 h3 h4 H5.out (by omega) (by omega) hr hx hb)
      have hpn := Hp.out
      go_loopw [14, 57] (fun v i wr => ∃ k : Nat, k ≤ n ∧ i = .int .i64 k ∧ v = .int .i64 (bestTo wd hg ws bj k) ∧ Below wo.heap.size wo wr) (fun _ i _ => n - (intOf i).toNat)
      case atStart => exact ⟨0, Nat.zero_le _, rfl, rfl, Below.refl _ _⟩
      case round =>
        obtain ⟨k, hk, rfl, rfl, hbi⟩ := hrel
        have HBI := Lib.hid hbi
        clear hbi
        obtain ⟨e1, e2, e3⟩ := best_bd wd hg ws bj k
        have E3 := Lib.hid e3
        clear e3
        by_cases hkn : k < n
        · have hkb : k < bj.length := by rw [Hbj.out]; exact hkn
          have hfk : full bj (k : Int) = bj[k] := by unfold full; simp [List.getElem?_eq_getElem hkb]
          have RI := Lib.hid (RO.out.next HBI.out)
          have RID : Hid (Rd wr.drew wr.drew.heap.size (some ⟨w1.heap.size, 0, none⟩) (bj.map Value.bool)) := Lib.hid RI.out
          have RW := Lib.hid ((Hr.out.below (HB.out.trans (HBI.out.mono HB.out.size))).more (by have := HB.out.size; have := HBI.out.size; omega))
          have hc : wr.cell? ⟨w1.heap.size, k, none⟩ = some (.bool bj[k]) := by
            obtain ⟨ad, hade, _, hx⟩ := RI.out.at_ (k := k) (by rw [List.length_map]; exact hkb)
            obtain rfl : ad = ⟨w1.heap.size, 0, none⟩ := (Option.some.inj hade).symm
            rw [List.getElem_map, add_flat0, Nat.zero_add] at hx
            exact hx
          have hkp : (k : Int) < wd * hg := by omega
          have KI := Lib.hid (HK.out.below HBI.out hw4)
          obtain ⟨k0, k1, k2⟩ := KI.out
          cases hbk : bj[k]
          · rw [hbk] at hc hfk
            have hwr5 : w2.heap.size < wr.heap.size := Nat.lt_of_lt_of_le hw4 HBI.out.size
            have CT := fun (d : Later wr) => (TO.out d.at (some ⟨w1.heap.size, 0, none⟩) n k hkn (RI.out.next d.below) (KI.out.below d.below hwr5) (Nat.lt_of_lt_of_le hwr5 d.below.size)).mono (R' := fun e w' => e = .returned (.bool (touchB wd hg bj k)) ∧ ∃ d' : Later wr, w' = d'.at) fun _ _ h => ⟨h.1, Later.of h.2⟩
            have f0 := fun (d : Later wr) => d.cell k0
            have f1 := fun (d : Later wr) => d.cell k1
            have f2 := fun (d : Later wr) => d.cell k2
            have f3 := fun (d : Later wr) => d.cell hc
            have hne := Later.ne wr
            have HW6 : Hid (w1.heap.size < wr.heap.size ∧ w2.heap.size < wr.heap.size) := Lib.hid (by have := HBI.out.size; omega)
            cases htk : touchB wd hg bj k
            · have HS := Lib.hid (best_no (wd := wd) (hg := hg) (ws := ws) (bs := bj) (k := k) (.inr (.inl htk)))
              rw [htk] at CT
              have HCT := Lib.hid CT
              have HS0 := Lib.hid (show wr.cell? ⟨w2.heap.size, 0, none⟩ = some (.int .i64 wd) ∧ wr.cell? ⟨w2.heap.size, 1, none⟩ = some (.int .i64 hg) ∧ wr.cell? ⟨w2.heap.size, 2, none⟩ = some (.slice (some ⟨w1.heap.size, 0, none⟩) n n) ∧ wr.cell? ⟨w1.heap.size, k, none⟩ = some (.bool false) from ⟨k0, k1, k2, hc⟩)
              clear hbk hfk htk CT hpn
              go_wp2_with fail
              refine wp_region_later (by kernel_rfl) (by kernel_rfl) ?_
              repeat (go_big_quiet_step ((go_at_call 103; exact HCT.out _)))
              refine wpQuiet_nil ?_
              rintro _ ⟨d6, rfl⟩
              have HB6 := Lib.hid (HBI.out.trans (d6.below.mono HBI.out.size))
              go_wp2
              go_roundw
              case rel => exact ⟨k + 1, by omega, by go_num, by rw [HS.out], HB6.out⟩
              case measure => simp [intOf]; omega
            · rw [htk] at CT
              have HCT := Lib.hid CT
              clear CT
              by_cases hneg : bestTo wd hg ws bj k < 0
              · have HS := Lib.hid (best_yes (wd := wd) (hg := hg) (ws := ws) (bs := bj) (k := k) hfk htk (.inl hneg))
                have HS0 := Lib.hid (show wr.cell? ⟨w2.heap.size, 0, none⟩ = some (.int .i64 wd) ∧ wr.cell? ⟨w2.heap.size, 1, none⟩ = some (.int .i64 hg) ∧ wr.cell? ⟨w2.heap.size, 2, none⟩ = some (.slice (some ⟨w1.heap.size, 0, none⟩) n n) ∧ wr.cell? ⟨w1.heap.size, k, none⟩ = some (.bool false) from ⟨k0, k1, k2, hc⟩)
                have hd : decide (bestTo wd hg ws bj k < 0) = true := by simp [hneg]
                clear hbk hfk htk hpn
                go_wp2_with fail
                refine wp_region_later (by kernel_rfl) (by kernel_rfl) ?_
                repeat (go_big_quiet_step ((go_at_call 103; exact HCT.out _)))
                refine wpQuiet_nil ?_
                rintro _ ⟨d6, rfl⟩
                have HB6 := Lib.hid (HBI.out.trans (d6.below.mono HBI.out.size))
                go_wp2
                go_roundw
                case rel => exact ⟨k + 1, by omega, by go_num, by rw [HS.out], HB6.out⟩
                case measure => simp [intOf]; omega
              · have b0 : 0 ≤ bestTo wd hg ws bj k := by omega
                have b1 : bestTo wd hg ws bj k < (n : Int) := by omega
                have hd : decide (bestTo wd hg ws bj k < 0) = false := by simp; omega
                have hkw : k < ws.length := by rw [Hn.out]; exact hkn
                have hbw : (bestTo wd hg ws bj k).toNat < ws.length := by rw [Hn.out]; omega
                obtain ⟨ad, rfl, _, hcx⟩ := RW.out.at_ (k := k) (by rw [List.length_map]; exact hkw)
                obtain ⟨ad', hade, _, hcy⟩ := RW.out.at_ (k := (bestTo wd hg ws bj k).toNat) (by rw [List.length_map]; exact hbw)
                obtain rfl : ad' = ad := (Option.some.inj hade).symm
                rw [List.getElem_map] at hcx hcy
                have hlw : ltW ws k (bestTo wd hg ws bj k) = (FloatKind.f32.format.order ws[k] ws[(bestTo wd hg ws bj k).toNat] == some .lt) := by
                  unfold ltW
                  simp [List.getD, hkw, hbw]
                have f4 := fun (d : Later wr) => d.cell hcx
                have f5 := fun (d : Later wr) => d.cell hcy
                cases hcm' : (FloatKind.f32.format.order ws[k] ws[(bestTo wd hg ws bj k).toNat] == some .lt)
                · have HS := Lib.hid (best_no (wd := wd) (hg := hg) (ws := ws) (bs := bj) (k := k) (.inr (.inr ⟨hneg, by rw [hlw, hcm']⟩)))
                  clear hbk hfk htk hpn hlw hade hcx hcy
                  go_wp2_with fail
                  refine wp_region_later (by kernel_rfl) (by kernel_rfl) ?_
                  repeat (go_big_quiet_step ((go_at_call 103; exact HCT.out _)))
                  refine wpQuiet_nil ?_
                  rintro _ ⟨d6, rfl⟩
                  have HB6 := Lib.hid (HBI.out.trans (d6.below.mono HBI.out.size))
                  go_wp2
                  go_roundw
                  case rel => exact ⟨k + 1, by omega, by go_num, by rw [HS.out], HB6.out⟩
                  case measure => simp [intOf]; omega
                · have HS := Lib.hid (best_yes (wd := wd) (hg := hg) (ws := ws) (bs := bj) (k := k) hfk htk (.inr (by rw [hlw, hcm'])))
                  clear hbk hfk htk hpn hlw hade hcx hcy
                  go_wp2_with fail
                  refine wp_region_later (by kernel_rfl) (by kernel_rfl) ?_
                  repeat (go_big_quiet_step ((go_at_call 103; exact HCT.out _)))
                  refine wpQuiet_nil ?_
                  rintro _ ⟨d6, rfl⟩
                  have HB6 := Lib.hid (HBI.out.trans (d6.below.mono HBI.out.size))
                  go_wp2
                  go_roundw
                  case rel => exact ⟨k + 1, by omega, by go_num, by rw [HS.out], HB6.out⟩
                  case measure => simp [intOf]; omega
          · rw [hbk] at hc hfk
            have HS := Lib.hid (best_no (wd := wd) (hg := hg) (ws := ws) (bs := bj) (k := k) (.inl hfk))
            clear hbk hfk hpn
            go_wp2
            go_quiet (fail)
            go_wp2
            go_roundw
            case rel => exact ⟨k + 1, by omega, by go_num, by rw [HS.out], below_drewN HBI.out _⟩
            case measure => simp [intOf]; omega
        · have hkn' : k = bj.length := by rw [Hbj.out]; omega
          have hbt := best_there (wd := wd) (hg := hg) (ws := ws) (bs := bj) h1 (by rw [Hbj.out]; exact H5.out) (by rw [Hcnt.out]; omega) (by rw [Hcnt.out, Hbj.out]; omega)
          have E4 := E3.out
          rw [hkn'] at e1 e2 E4
          have HF := Lib.hid (invN_step (wd := wd) (hg := hg) (ws := ws) (c := cm - j) (bs := bj) (acc := acc) (by omega))
          have hbe : bestTo wd hg ws bj k = bestTo wd hg ws bj bj.length := by rw [hkn']
          rw [hbe]
          obtain ⟨x, hx⟩ : ∃ x, x = bestTo wd hg ws bj bj.length := ⟨_, rfl⟩
          rw [← hx] at hbt e2 E4 HF ⊢
          have hxn : x < (n : Int) := by rw [Hbj.out] at e2; exact e2
          have hxf := E4 hbt
          have hxl : x.toNat < bj.length := by rw [Hbj.out]; omega
          have hbx : bj[x.toNat] = false := by
            obtain ⟨_, h9⟩ := full_get (bs := bj) rfl hbt (by rw [Hbj.out]; exact hxn)
            rw [← h9]; exact hxf
          have HCN := Lib.hid (cntT_set hxl hbx)
          have RI2 := Lib.hid (own_next HO.out HBI.out)
          have hc : wr.cell? ⟨w1.heap.size, x.toNat, none⟩ = some (.bool false) := by
            rw [RI2.out.cellAt x.toNat (by omega), List.getElem?_map, List.getElem?_eq_getElem hxl, hbx]; rfl
          have hf := RI2.out.frozenAt x.toNat
          have HT := Lib.hid (set_stored (x := x) RI2.out (World.grownBy.refl wr (some w1.heap.size)))
          have HK2 := HK.out.below HBI.out hw4
          have hgw : wo.heap.size ≤ wr.heap.size := HBI.out.size
          have HKs := Lib.hid (HK2.grown HT.out.2 (by omega) (by intro h; injection h; omega))
          have HBs := Lib.hid ((HB.out.trans (HBI.out.mono HB.out.size)).setCell (p := ⟨w1.heap.size, x.toNat, none⟩) (by show w.heap.size ≤ w1.heap.size; omega) (.bool true))
          have HL2 := own_next HL.out HBI.out
          have HLs := Lib.hid (HL2.kept HT.out.2 (own_off HL2 (by omega)))
          obtain ⟨k0, k1, k2⟩ := id HK2
          have hsz : (wr.setCell ⟨w1.heap.size, x.toNat, none⟩ (.bool true)).heap.size = wr.heap.size := World.size_setCell ..
          have HSZ := Lib.hid hsz
          clear hx hbe hxf hbx hxl hkn' E4 E3 HK2 HL2 hsz e1 e2
          have hkp : ¬ ((k : Int) < wd * hg) := by omega
          clear hpn
          have HN9 : Hid (∀ j u, [Value.int .i64 x][j]? = some u → ((wr.setCell ⟨w1.heap.size, x.toNat, none⟩ (.bool true)).alloc (.cells #[.int .i64 x] 2)).cell? ((⟨wr.heap.size, 0, none⟩ : Addr).add j) = some u) := Lib.hid (by
            have h9 := new1 (wr.setCell ⟨w1.heap.size, x.toNat, none⟩ (.bool true)) (.int .i64 x) 2
            rw [HSZ.out] at h9
            exact h9)
          have HZ9 : Hid (w2.heap.size + 1 ≤ ((wr.setCell ⟨w1.heap.size, x.toNat, none⟩ (.bool true)).alloc (.cells #[.int .i64 x] 2)).heap.size) := Lib.hid (by rw [World.size_alloc, HSZ.out]; omega)
          go_wp2_with (at_builtin; go_must (refine wpList_append_own _ rfl (.tmp 91) (.tmp 93) 66 rfl (w2.heap.size + 1) 2 i0 (.int .i64 0) 1 8 Try.underlying66 hi hz0 hz1 hz2 rfl (by decide) _ _ _ rfl (HLs.out.alloc _) ⟨wr.heap.size, 0, none⟩ 1 1 [.int .i64 x] rfl rfl HN9.out (one1 _ _) ?_ ?_ HZ9.out ?_))
          · unfold maxLen; omega
          · omega
          intro v' w7 hown' hgrow _
          have HE7 := Lib.hid (own_app1 hown')
          have hsza : ((wr.setCell ⟨w1.heap.size, x.toNat, none⟩ (.bool true)).alloc (.cells #[.int .i64 x] 2)).heap.size = wr.heap.size + 1 := by rw [World.size_alloc, HSZ.out]
          have hob := own_off2 HLs.out
          have hO7 := HT.out.1.alloc (.cells #[.int .i64 x] 2)
          have HO7 := Lib.hid (hO7.kept hgrow (.inr fun he => hob w1.heap.size (by omega) (by rw [← he]; rfl)))
          have HK7 := Lib.hid ((HKs.out.below (below_new _ (.cells #[.int .i64 x] 2)) (by rw [HSZ.out]; omega)).grown hgrow (by rw [hsza]; omega) (hob _ (by omega)))
          have HB7 := Lib.hid ((HBs.out.alloc (by rw [HSZ.out]; omega) (.cells #[.int .i64 x] 2)).grown hgrow (by rw [hsza]; omega) (fun q hq => by have := (HLs.out.lt q hq).1; omega))
          have hz7 : w2.heap.size + 1 < w7.heap.size := by have := hgrow.size; omega
          obtain ⟨A4, c4, rfl, _⟩ := own_shape HE7.out
          clear hown' hgrow hO7 hob
          go_wp2
          go_roundw
          case rel => exact ⟨j + 1, bj.set x.toNat true, acc ++ [x], by omega, by simp [lenOf, Hacc.out], by rw [List.length_set]; exact Hbj.out, by rw [HCN.out, Hcnt.out], by rw [List.length_append, Hacc.out]; rfl, Lib.hid (by rw [HI.out, HF.out, Nat.sub_sub]), HE7.out, HO7.out, HK7.out, HB7.out, hz7⟩
          case measure => simp [lenOf]; have := Hacc.out; omega
    · have hjc : j = cm := by omega
      have hjt : ¬ ((acc.length : Int) < (cm : Int) + 1) := by rw [Hal.out]; omega
      have hcap : acc.length ≤ 9223372036854775807 := by omega
      have HF : Hid (invN wd hg ws cm (startB n a) [a] = acc) := Lib.hid (by rw [HI.out, hjc, Nat.sub_self]; rfl)
      go_wp2
      go_ret2
      refine ⟨⟨A3, c3, ?_, ?_⟩, HB.out⟩
      · rw [HF.out]; rfl
      · rw [HF.out]; exact own_base HL.out (by omega)
set_option maxHeartbeats 2000000 in
set_option maxRecDepth 100000 in
theorem specInvade_no (wd hg : Int) (A : Option Addr) (n c : Nat) (a cnt : Int) (ws : List Nat) (w : World) (hn : ws.length = n) (hm : n ≤ 1048576) (hr : Rd w w.heap.size A (ws.map (Value.float .f32))) (ho : invOk wd hg ws a cnt = false) :
    Calls Try.prog 59 #[.slice A n c, .int .i64 wd, .int .i64 hg, .int .i64 a, .int .i64 cnt] w fun e w' => GivesI w.heap.size [] false e w' ∧ Below w.heap.size w w' := by
  have C104 := l07Weights_any wd hg A n c ws w hn hm hr
  have CA := fun W => l00In_any a 0 (wd * hg - 1) W
  have CC := fun W => l00In_any cnt 1 (wd * hg) W
  unfold invOk at ho
  cases hv : wOk wd hg ws
  · rw [hv] at C104
    have HC104 := Lib.hid C104
    clear C104 CA CC hr ho hv hn
    go_enter Try.func59, Try.ntmps59
    go_wp2_with fail
    refine HC104.out.mono ?_
    rintro e w1 ⟨rfl, hb1⟩
    have B1 := Lib.hid hb1; clear hb1
    go_wp2
    go_ret2
    exact ⟨⟨none, 0, rfl, World.ownsRow_nil _ _ _ _⟩, B1.out⟩
  · have hv' := hv
    unfold wOk at hv'
    rw [Bool.and_eq_true, vF_iff] at hv'
    obtain ⟨p1, p2⟩ := prod_bd hv'.1.1.1.1 hv'.1.1.1.2 hv'.1.1.2.1 hv'.1.1.2.2
    have hwr : IntKind.i64.wrap (wd * hg) = wd * hg := IntWalk.i64_in _ (by omega)
    have hwr2 : IntKind.i64.wrap (wd * hg - 1) = wd * hg - 1 := IntWalk.i64_in _ (by omega)
    rw [hv] at C104
    have HC104 := Lib.hid C104
    cases hi : inB a 0 (wd * hg - 1)
    · rw [hi] at CA
      have HCA := Lib.hid CA
      clear C104 CA CC hr ho hv hv' hi hn
      go_enter Try.func59, Try.ntmps59
      go_wp2_with fail
      refine HC104.out.mono ?_
      rintro e w1 ⟨rfl, hb1⟩
      have B1 := Lib.hid hb1; clear hb1
      go_wp2_with fail
      refine (HCA.out _).mono ?_
      rintro e w' ⟨rfl, rfl⟩
      go_wp2
      go_ret2
      exact ⟨⟨none, 0, rfl, World.ownsRow_nil _ _ _ _⟩, B1.out⟩
    · have hq : inB cnt 1 (wd * hg) = false := by rw [hv, hi] at ho; simpa using ho
      rw [hi] at CA
      rw [hq] at CC
      have HCA := Lib.hid CA
      have HCC := Lib.hid CC
      clear C104 CA CC hr ho hv hv' hi hq hn
      go_enter Try.func59, Try.ntmps59
      go_wp2_with fail
      refine HC104.out.mono ?_
      rintro e w1 ⟨rfl, hb1⟩
      have B1 := Lib.hid hb1; clear hb1
      go_wp2_with fail
      refine (HCA.out _).mono ?_
      rintro e w' ⟨rfl, rfl⟩
      go_wp2_with fail
      refine (HCC.out _).mono ?_
      rintro e w' ⟨rfl, rfl⟩
      go_wp2
      go_ret2
      exact ⟨⟨none, 0, rfl, World.ownsRow_nil _ _ _ _⟩, B1.out⟩
theorem specInvade_any (wd hg : Int) (A : Option Addr) (n c : Nat) (a cnt : Int) (ws : List Nat) (w : World) (hn : ws.length = n) (hm : n ≤ 1048576) (hr : Rd w w.heap.size A (ws.map (Value.float .f32))) :
    Calls Try.prog 59 #[.slice A n c, .int .i64 wd, .int .i64 hg, .int .i64 a, .int .i64 cnt] w fun e w' => GivesI w.heap.size (invR wd hg ws a cnt) (invOk wd hg ws a cnt) e w' ∧ Below w.heap.size w w' := by
  unfold invR
  cases ho : invOk wd hg ws a cnt
  · exact specInvade_no wd hg A n c a cnt ws w hn hm hr ho
  · rw [if_pos rfl]
    unfold invOk at ho
    rw [Bool.and_eq_true, Bool.and_eq_true, inB_iff, inB_iff] at ho
    obtain ⟨hv, ⟨a0, a1⟩, b0, b1⟩ := ho
    have hv' := hv
    unfold wOk at hv'
    rw [Bool.and_eq_true, vF_iff, hn] at hv'
    have C := specInvade_yes wd hg A n c (cnt - 1).toNat a ws w hn hr hv a0 (by omega) (by omega)
    rw [show (((cnt - 1).toNat : Nat) : Int) + 1 = cnt from by omega] at C
    rw [hn]
    exact C
end Go.Proofs.Ytbefcfdmaafghaa
