/- GrowEdge, the reference's way. -/
import Derived.Test.YtbefcfdmaafghaaGrowImpl
import Derived.Test.YtbefcfdmaafghaaFlipSpec
namespace Go.Proofs.Ytbefcfdmaafghaa
open Go.RowKit
/-- the contract of 'l07Touches' at a field's cells -/
def ltouchesC (wd hg : Int) (n b : Nat) (bj : List Bool) : Prop := ∀ (W : World) (A : Option Addr) (c k : Nat), k < n → Rd W W.heap.size A (bj.map Value.bool) → FBox W b wd hg (.slice A n c) → b < W.heap.size →
  Calls Try.prog 103 #[.pointer (some ⟨b, 0, none⟩), .int .i64 k] W fun e w' => e = .returned (.bool (touchB wd hg bj k)) ∧ Below W.heap.size W w'
set_option maxHeartbeats 4000000 in
set_option maxRecDepth 100000 in
theorem specGrow_yes (wd hg : Int) (A : Option Addr) (n c cn : Nat) (sd : Int) (bs : List Bool) (w : World) (hn : bs.length = n) (hr : Rd w w.heap.size A (bs.map Value.bool))
    (hv : vF wd hg n = true) (hcn : cn ≤ 512) (hs0 : 0 ≤ sd) (hs1 : sd ≤ 2147483647) :
    Calls Try.prog 67 #[.agg #[.int .i64 wd, .int .i64 hg, .slice A n c], .int .i64 cn, .int .i64 sd] w fun e w' => GivesGrow w.heap.size wd hg (growN wd hg cn bs sd) e w' ∧ Below w.heap.size w w' := by
  obtain ⟨⟨⟨h1, h2⟩, h3, h4⟩, h5⟩ := vF_iff.1 hv
  obtain ⟨q1, q2⟩ := prod_bd h1 h2 h3 h4
  have n0 : 0 < n := by omega
  have n1 : n ≤ 256 := by omega
  obtain ⟨i0, hi, hz0, hz1, hz2⟩ := info_parts Try.info2
  have C97 := fun W hr hx hb => l07Own_any wd hg A n c w.heap.size bs W hn n0 (by omega) hr hx hb
  have C98 := fun W => l00In_any (cn : Int) 0 512 W
  have C84 := fun W => l07Seed_any sd W
  rw [inB_t (by omega) (by omega)] at C98
  rw [inB_t hs0 hs1] at C84
  have H97 := Lib.hid C97; have H98 := Lib.hid C98; have H84 := Lib.hid C84
  have Hr := Lib.hid hr; have Hn := Lib.hid hn
  have H5 := Lib.hid h5
  have HV := Lib.hid hv
  clear C97 C98 C84 hr hn hv h5
  obtain ⟨W0, hW0⟩ : ∃ W0, W0 = (w.alloc (.cells #[.int .i64 wd, .int .i64 hg, .slice A n c] 27)).alloc (.cells #[.int .i64 0, .int .i64 0, .slice none 0 0] 27) := ⟨_, rfl⟩
  have B0 : Hid (Below w.heap.size w W0) := Lib.hid (by rw [hW0]; exact bthen (below_new w _) (below_new _ _))
  have z0 : W0.heap.size = w.heap.size + 2 := by rw [hW0]; simp
  have K0 : FBox W0 w.heap.size wd hg (.slice A n c) := by rw [hW0]; exact ⟨by simp [go_sem], by simp [go_sem], by simp [go_sem]⟩
  have X0 : Hid (Open3 W0 (w.heap.size + 1)) := Lib.hid (by rw [hW0]; simpa using Open3.new (w.alloc (.cells #[.int .i64 wd, .int .i64 hg, .slice A n c] 27)))
  have R0 := Lib.hid ((Hr.out.below B0.out).more B0.out.size)
  have C76 := l07Is_any wd hg A n c w.heap.size W0 (by omega) K0
  rw [HV.out] at C76
  have H76 := Lib.hid C76
  clear C76
  go_enter Try.func67, Try.ntmps67
  go_wp2_with fail
  rw [← hW0]
  have hz0' : w.heap.size + 1 < W0.heap.size := by omega
  clear hW0 z0
  have K0 := Lib.hid K0
  obtain ⟨k0, k1, k2⟩ := K0.out
  refine H76.out.mono ?_
  rintro e w1 ⟨rfl, m1, rfl⟩
  obtain ⟨w1, hw1⟩ : ∃ x, x = W0.drewN m1 := ⟨_, rfl⟩
  rw [← hw1]
  have B1 : Hid (Below W0.heap.size W0 w1) := Lib.hid (by rw [hw1]; exact below_drewN (Below.refl _ _) _)
  clear hw1 k0 k1 k2
  have hzz1 := B1.out.size
  obtain ⟨k0, k1, k2⟩ := K0.out.below B1.out (by omega)
  go_wp2_with (first | (go_at_call 98; refine (H98.out _).mono ?_; rintro e w' ⟨rfl, rfl⟩) | (go_at_call 84; refine (H84.out _).mono ?_; rintro e w' ⟨rfl, rfl⟩) | fail)
  refine (H97.out _ ((R0.out.below B1.out).more B1.out.size) (K0.out.below B1.out (by omega)) (by omega)).mono ?_
  rintro e w4 ⟨hgf, hb4⟩
  obtain ⟨g, cp, rfl, ho4⟩ := hgf.parts
  rw [Hn.out] at ho4 ⊢
  have hg4 := (ho4.lt g rfl).1
  have B4 := Lib.hid (bthen B1.out hb4)
  have hz3 := hzz1
  have hz4 := hb4.size
  have hgz := (ho4.lt g rfl).2
  have O4 := Lib.hid (own_base (b' := W0.heap.size) ho4 hz3)
  clear hgf ho4 hb4 B1 k0 k1 k2
  go_wp2_with fail
  obtain ⟨W5, hW5⟩ : ∃ W5, W5 = w4.alloc (.cells #[.int .i64 wd, .int .i64 hg, .slice (some ⟨g, 0, none⟩) n cp] 27) := ⟨_, rfl⟩
  rw [← hW5]
  have hb5 : Below w4.heap.size w4 W5 := by rw [hW5]; exact below_new _ _
  have K5 : Hid (FBox W5 w4.heap.size wd hg (.slice (some ⟨g, 0, none⟩) n cp)) := Lib.hid (by rw [hW5]; exact FBox.new _ _ _ _ _)
  have B5 := Lib.hid (bthen B4.out hb5)
  have O5 := Lib.hid (own_next O4.out hb5)
  have hz5 : w4.heap.size < W5.heap.size := by rw [hW5]; simp
  have X5 := Lib.hid (X0.out.below B5.out (by omega))
  clear hW5 hb5 B4 O4
  go_loopw [1, 2] (fun i s wr => ∃ (j : Nat) (bj : List Bool) (sj : Int), j ≤ cn ∧ i = .int .i64 j ∧ s = .int .i64 sj ∧ 0 ≤ sj ∧ sj ≤ 2147483647 ∧ bj.length = n ∧ Hid (growN wd hg cn bs sd = growN wd hg j bj sj) ∧ wr.ownsRow W0.heap.size 4 1 (.slice (some ⟨g, 0, none⟩) n cp) n (bj.map Value.bool) ∧ FBox wr w4.heap.size wd hg (.slice (some ⟨g, 0, none⟩) n cp) ∧ Open3 wr (w.heap.size + 1) ∧ Below w.heap.size w wr ∧ W5.heap.size ≤ wr.heap.size) (fun i _ _ => (intOf i).toNat)
  case atStart => exact ⟨cn, bs, sd, Nat.le_refl _, rfl, rfl, hs0, hs1, Hn.out, Lib.hid rfl, O5.out, K5.out, X5.out, B0.out.trans (B5.out.mono B0.out.size), Nat.le_refl _⟩
  case round =>
    obtain ⟨j, bj, sj, hj, rfl, rfl, s0, s1, hbj, HG, ho, hkx, hxx, hb, hzr⟩ := hrel
    obtain ⟨wo, rfl⟩ : ∃ wo : World, wo = wr := ⟨_, rfl⟩
    have HO := Lib.hid ho
    have HK := Lib.hid hkx
    have HX := Lib.hid hxx
    have HB := Lib.hid hb
    have Hbj := Lib.hid hbj
    clear ho hkx hxx hb hbj
    by_cases hlt : 0 < j
    · obtain ⟨k0, k1, k2⟩ := HK.out
      have hgr := (HO.out.lt g rfl).2
      have hw4 : w4.heap.size < wo.heap.size := by omega
      have RO := Lib.hid (Rd.own HO.out)
      have HN : Hid ((wo.alloc (.cells #[] 2)).ownsRow wo.heap.size 2 1 (.slice (some ⟨wo.heap.size, 0, none⟩) 0 0) 0 []) := Lib.hid (own_nil_made wo 2 _ (Nat.le_refl _))
      have TO : Hid (ltouchesC wd hg n w4.heap.size bj) := Lib.hid (fun W A c k h6 hr hx hb => l07Touches_any wd hg k A n c w4.heap.size bj W Hbj.out h1 h2 h3 h4 H5.out (by omega) (by omega) hr hx hb)
      go_wp2_with fail
      clear k0 k1 k2
      go_loopw [10, 36] (fun v i wr => ∃ k : Nat, k ≤ n ∧ i = .int .i64 k ∧ wr.ownsRow wo.heap.size 2 1 v (edgeK wd hg bj k).length ((edgeK wd hg bj k).map (Value.int .i64)) ∧ Below wo.heap.size wo wr) (fun _ i _ => n - (intOf i).toNat)
      case atStart => exact ⟨0, Nat.zero_le _, rfl, HN.out, below_new _ _⟩
      case round =>
        obtain ⟨k, hk, rfl, hown, hbi⟩ := hrel
        have HE := Lib.hid hown
        have HBI := Lib.hid hbi
        clear hown hbi
        have hle := edgeK_len wd hg bj k
        by_cases hkn : k < n
        · have hkb : k < bj.length := by rw [Hbj.out]; exact hkn
          have hfk : full bj (k : Int) = bj[k] := by unfold full; simp [List.getElem?_eq_getElem hkb]
          have RI := Lib.hid (RO.out.next HBI.out)
          have hc : wr.cell? ⟨g, k, none⟩ = some (.bool bj[k]) := by
            obtain ⟨ad, hade, _, hx⟩ := RI.out.at_ (k := k) (by rw [List.length_map]; exact hkb)
            obtain rfl : ad = ⟨g, 0, none⟩ := (Option.some.inj hade).symm
            rw [List.getElem_map, add_flat0, Nat.zero_add] at hx
            exact hx
          have hwi : w4.heap.size < wr.heap.size := Nat.lt_of_lt_of_le hw4 HBI.out.size
          have KI := Lib.hid (HK.out.below HBI.out hw4)
          obtain ⟨k0, k1, k2⟩ := KI.out
          cases hbk : bj[k]
          · rw [hbk] at hc hfk
            cases htk : touchB wd hg bj k
            · have HS := Lib.hid (edgeK_no (wd := wd) (hg := hg) (bs := bj) (k := k) (.inr htk))
              have CT := TO.out wr (some ⟨g, 0, none⟩) cp k hkn RI.out KI.out hwi
              rw [htk] at CT
              have HCT := Lib.hid CT
              clear hbk hfk htk CT
              go_wp2_with fail
              refine HCT.out.mono ?_
              rintro e w6 ⟨rfl, hb6⟩
              have HB6 := Lib.hid (HBI.out.trans (hb6.mono HBI.out.size))
              have HE6 := Lib.hid (own_next HE.out hb6)
              clear hb6 k0 k1 k2 hc
              go_wp2
              go_roundw
              case rel => exact ⟨k + 1, by omega, by go_num, by rw [HS.out]; exact HE6.out, HB6.out⟩
              case measure => simp [intOf]; omega
            · have HS := Lib.hid (edgeK_yes (wd := wd) (hg := hg) (bs := bj) (k := k) hfk htk)
              have CT := TO.out wr (some ⟨g, 0, none⟩) cp k hkn RI.out KI.out hwi
              rw [htk] at CT
              have HCT := Lib.hid CT
              clear hbk hfk htk CT
              go_wp2_with fail
              refine HCT.out.mono ?_
              rintro e w6 ⟨rfl, hb6⟩
              have HB6 := Lib.hid (HBI.out.trans (hb6.mono HBI.out.size))
              have HE6 := Lib.hid (own_next HE.out hb6)
              clear hb6 k0 k1 k2 hc
              go_wp2_with (at_builtin; go_must (refine wpList_append_own _ rfl (.tmp 49) (.tmp 51) 66 rfl wo.heap.size 2 i0 (.int .i64 0) 1 8 Try.underlying66 hi hz0 hz1 hz2 rfl (by decide) _ _ _ rfl (HE6.out.alloc _) ⟨w6.heap.size, 0, none⟩ 1 1 [.int .i64 k] rfl rfl (new1 w6 _ 2) (one1 _ _) ?_ ?_ ?_ ?_))
              · unfold maxLen; omega
              · omega
              · have := HB6.out.size; simp; omega
              intro v' w7 hown' hgrow _
              have HE7 := Lib.hid (own_app1 hown')
              have HB7 := Lib.hid ((HB6.out.alloc HB6.out.size _).grown hgrow (by have := HB6.out.size; simp; omega) (fun q hq => (HE6.out.lt q hq).1))
              clear hown' hgrow
              go_wp2
              go_roundw
              case rel => exact ⟨k + 1, by omega, by go_num, by rw [HS.out]; exact HE7.out, HB7.out⟩
              case measure => simp [intOf]; omega
          · rw [hbk] at hc hfk
            have HS := Lib.hid (edgeK_no (wd := wd) (hg := hg) (bs := bj) (k := k) (.inl hfk))
            clear hbk hfk
            go_wp2
            go_roundw
            case rel => exact ⟨k + 1, by omega, by go_num, by rw [HS.out]; exact HE.out, HBI.out⟩
            case measure => simp [intOf]; omega
        · have hkn' : k = bj.length := by rw [Hbj.out]; omega
          obtain ⟨A2, c2, rfl, hr2⟩ := own_shape HE.out
          have hlb := edgeK_bd wd hg bj k
          have hln := edgeK_len wd hg bj k
          obtain ⟨l, hl⟩ : ∃ l, l = edgeK wd hg bj k := ⟨_, rfl⟩
          rw [← hl] at hr2 hlb hln ⊢
          have HLE : Hid (l = edgeK wd hg bj bj.length) := Lib.hid (by rw [hl, hkn'])
          have HLB := Lib.hid hlb
          have R2 := Lib.hid hr2
          have hln' : l.length ≤ n := by omega
          have hgw : wo.heap.size ≤ wr.heap.size := HBI.out.size
          have HX2 := Lib.hid (HX.out.below HBI.out (by omega))
          have HK2 := Lib.hid (HK.out.below HBI.out hw4)
          have HO2 := Lib.hid (own_next HO.out HBI.out)
          have HB2 := Lib.hid (bthen HB.out HBI.out)
          have hkle : k ≤ n := hk
          clear hl hlb hln hr2 hkn' hle HE
          by_cases hl0 : l = []
          · have HF : Hid (growN wd hg cn bs sd = none) := Lib.hid (by rw [HG.out]; exact growN_stop (by omega) (by rw [← HLE.out]; exact hl0))
            obtain ⟨⟨x0, x1, x2⟩, y0, y1, y2⟩ := HX2.out
            have hll : l.length = 0 := by rw [hl0]; rfl
            rw [hll]
            clear hll hl0
            go_wp2
            refine bodyPost_ret (v := .tuple #[.agg #[.int .i64 0, .int .i64 0, .slice none 0 0], .int .i64 0, .bool false]) (by simp [results, Try.results67, go_sem, x0, x1, x2]) rfl ⟨gives_none HF.out ⟨none, 0, rfl, World.ownsRow_nil _ _ _ _⟩, ?_⟩
            exact (((HB2.out.setCell (by simp) _).setCell (by simp) _).setCell (by simp) _)
          · have hlp := List.length_pos_iff.2 hl0
            obtain ⟨hpk, hpe⟩ := pick_at (sd := sj) hl0
            have HF : Hid (growN wd hg cn bs sd = growN wd hg (j - 1) (bj.set (pick l sj).toNat true) (nxt sj)) := Lib.hid (by
              rw [HG.out, growN_step (by omega) (by rw [← HLE.out]; exact hl0), ← HLE.out])
            obtain ⟨nx0, nx1⟩ := nxt_bd sj
            obtain ⟨d0, d1⟩ := drw_bd (s := sj) (n := l.length) (by omega)
            have CD := fun W => l07Draw_any sj (l.length : Int) W s0 s1 (by omega) (by omega)
            have HCD := Lib.hid CD
            obtain ⟨p0, p1⟩ := HLB.out _ (List.getElem_mem hpk)
            rw [← hpe] at p0 p1
            have hlz : ¬ ((l.length : Int) = 0) := by omega
            have hlz2 : ((l.length : Int) == 0) = false := by simpa using hl0
            obtain ⟨ad2, rfl, _, hcd⟩ := R2.out.at_ (k := (drw sj l.length).toNat) (by rw [List.length_map]; exact hpk)
            rw [List.getElem_map, ← hpe] at hcd
            obtain ⟨x, hx⟩ : ∃ x, x = pick l sj := ⟨_, rfl⟩
            rw [← hx] at hcd p0 p1 HF
            obtain ⟨d, hd⟩ : ∃ d, d = drw sj (l.length : Int) := ⟨_, rfl⟩
            rw [← hd] at hcd d0 d1 HCD
            obtain ⟨z, hz⟩ : ∃ z, z = nxt sj := ⟨_, rfl⟩
            rw [← hz] at nx0 nx1 HCD HF
            have p2 : x < (n : Int) := by omega
            clear hpe hpk CD hx hd hz p1 hl0
            go_wp2_with fail
            refine (HCD.out _).mono ?_
            rintro e w8 ⟨rfl, m8, rfl⟩
            obtain ⟨wq, hwq⟩ : ∃ wq, wq = wr.drewN m8 := ⟨_, rfl⟩
            rw [← hwq]
            have hcq : wq.cell? (ad2.add d.toNat) = some (.int .i64 x) := by rw [hwq]; exact hcd
            have HOq : Hid (wq.ownsRow W0.heap.size 4 1 (.slice (some ⟨g, 0, none⟩) n cp) n (bj.map Value.bool)) := Lib.hid (by rw [hwq]; exact own_drewN' HO2.out _)
            have HBq : Hid (Below w.heap.size w wq) := Lib.hid (by rw [hwq]; exact below_drewN HB2.out _)
            have HKq : Hid (FBox wq w4.heap.size wd hg (.slice (some ⟨g, 0, none⟩) n cp)) := Lib.hid (by rw [hwq]; exact HK2.out)
            have HXq : Hid (Open3 wq (w.heap.size + 1)) := Lib.hid (by rw [hwq]; exact HX2.out)
            have hzq : wq.heap.size = wr.heap.size := by rw [hwq]; rfl
            have hzq' : wo.heap.size ≤ wq.heap.size := by omega
            clear hwq hcd HO2 HB2 HK2 HX2 hzq
            have hxl : x.toNat < bj.length := by rw [Hbj.out]; omega
            have hc : wq.cell? ⟨g, x.toNat, none⟩ = some (.bool bj[x.toNat]) := by
              rw [HOq.out.cellAt x.toNat (by omega), List.getElem?_map, List.getElem?_eq_getElem hxl]; rfl
            have hf := HOq.out.frozenAt x.toNat
            have HT := Lib.hid (set_stored (x := x) HOq.out (World.grownBy.refl wq (some g)))
            have HKs := Lib.hid (HKq.out.grown HT.out.2 (by omega) (by intro h; injection h; omega))
            have HXs := Lib.hid (HXq.out.grown HT.out.2 (by omega) (by intro h; injection h; omega))
            have HBs := Lib.hid (HBq.out.setCell (p := ⟨g, x.toNat, none⟩) (by show w.heap.size ≤ g; omega) (.bool true))
            obtain ⟨y, hy⟩ : ∃ y, y = bj[x.toNat]'hxl := ⟨_, rfl⟩
            rw [← hy] at hc
            obtain ⟨k0, k1, k2⟩ := HKq.out
            clear hy hxl
            go_wp2_with fail
            go_still_tail 7, (by kernel_rfl)
            change wpList _ _ _ _ _ wq.drew
            go_wp2
            go_roundw
            case rel => exact ⟨j - 1, bj.set x.toNat true, z, by omega, by rw [show ((j - 1 : Nat) : Int) = (j : Int) - 1 from by omega], rfl, nx0, nx1, by rw [List.length_set]; exact Hbj.out, HF.out, own_drew HT.out.1, HKs.out, HXs.out, Below.drew HBs.out, by show W5.heap.size ≤ (wq.setCell _ _).heap.size; rw [World.size_setCell]; omega⟩
            case measure => simp [intOf]; omega
    · have hjc : j = 0 := by omega
      have HF : Hid (growN wd hg cn bs sd = some (bj, sj)) := Lib.hid (by rw [HG.out, hjc]; rfl)
      have hgr := (HO.out.lt g rfl).2
      have hw4 : w4.heap.size < wo.heap.size := by omega
      obtain ⟨k0, k1, k2⟩ := HK.out
      obtain ⟨⟨x0, x1, x2⟩, y0, y1, y2⟩ := HX.out
      go_wp2
      refine bodyPost_ret (v := .tuple #[.agg #[.int .i64 wd, .int .i64 hg, .slice (some ⟨g, 0, none⟩) n cp], .int .i64 sj, .bool true]) (by simp [results, Try.results67, go_sem, x0, x1, x2]) rfl ⟨gives_some HF.out ⟨some ⟨g, 0, none⟩, cp, by rw [Hbj.out], ?_⟩, ?_⟩
      · rw [Hbj.out]
        have hO := HO.out
        exact own_set (own_set (own_set (own_base hO B0.out.size) (by rintro a ⟨⟩; simp; omega) _) (by rintro a ⟨⟩; simp; omega) _) (by rintro a ⟨⟩; simp; omega) _
      · exact (((HB.out.setCell (by simp) _).setCell (by simp) _).setCell (by simp) _)
set_option maxHeartbeats 2000000 in
set_option maxRecDepth 100000 in
theorem specGrow_no (wd hg : Int) (A : Option Addr) (n c : Nat) (cnt sd : Int) (w : World) (hn : n ≤ 1048576) (ho : growOk wd hg n cnt sd = false) :
    Calls Try.prog 67 #[.agg #[.int .i64 wd, .int .i64 hg, .slice A n c], .int .i64 cnt, .int .i64 sd] w fun e w' => GivesFIB w.heap.size 0 0 [] 0 false e w' ∧ Below w.heap.size w w' := by
  have C98 := fun W => l00In_any cnt 0 512 W
  have C84 := fun W => l07Seed_any sd W
  obtain ⟨W0, hW0⟩ : ∃ W0, W0 = (w.alloc (.cells #[.int .i64 wd, .int .i64 hg, .slice A n c] 27)).alloc (.cells #[.int .i64 0, .int .i64 0, .slice none 0 0] 27) := ⟨_, rfl⟩
  have B0 : Hid (Below w.heap.size w W0) := Lib.hid (by rw [hW0]; exact bthen (below_new w _) (below_new _ _))
  have K0 : Hid (FBox W0 w.heap.size wd hg (.slice A n c)) := Lib.hid (by rw [hW0]; exact ⟨by simp [go_sem], by simp [go_sem], by simp [go_sem]⟩)
  have X0 : Hid (Open3 W0 (w.heap.size + 1)) := Lib.hid (by rw [hW0]; simpa using Open3.new (w.alloc (.cells #[.int .i64 wd, .int .i64 hg, .slice A n c] 27)))
  have C76 := l07Is_any wd hg A n c w.heap.size W0 (by omega) K0.out
  unfold growOk at ho
  cases hv : vF wd hg n
  · rw [hv] at C76
    have H76 := Lib.hid C76
    clear C76 C98 C84 hv ho
    go_enter Try.func67, Try.ntmps67
    go_wp2_with fail
    rw [← hW0]
    clear hW0
    obtain ⟨k0, k1, k2⟩ := K0.out
    refine H76.out.mono ?_
    rintro e w1 ⟨rfl, m1, rfl⟩
    clear k0 k1 k2
    obtain ⟨⟨x0, x1, x2⟩, y0, y1, y2⟩ := X0.out
    go_wp2
    refine bodyPost_ret (v := .tuple #[.agg #[.int .i64 0, .int .i64 0, .slice none 0 0], .int .i64 0, .bool false]) (by simp [results, Try.results67, go_sem, x0, x1, x2]) rfl ⟨⟨none, 0, rfl, World.ownsRow_nil _ _ _ _⟩, ?_⟩
    exact (((below_drewN B0.out _).setCell (by simp) _).setCell (by simp) _).setCell (by simp) _
  · cases hi : inB cnt 0 512
    · rw [hv] at C76
      rw [hi] at C98
      have H76 := Lib.hid C76; have H98 := Lib.hid C98
      clear C76 C98 C84 hv hi ho
      go_enter Try.func67, Try.ntmps67
      go_wp2_with fail
      rw [← hW0]
      clear hW0
      obtain ⟨k0, k1, k2⟩ := K0.out
      refine H76.out.mono ?_
      rintro e w1 ⟨rfl, m1, rfl⟩
      clear k0 k1 k2
      obtain ⟨⟨x0, x1, x2⟩, y0, y1, y2⟩ := X0.out
      go_wp2_with fail
      refine (H98.out _).mono ?_
      rintro e w' ⟨rfl, rfl⟩
      go_wp2
      refine bodyPost_ret (v := .tuple #[.agg #[.int .i64 0, .int .i64 0, .slice none 0 0], .int .i64 0, .bool false]) (by simp [results, Try.results67, go_sem, x0, x1, x2]) rfl ⟨⟨none, 0, rfl, World.ownsRow_nil _ _ _ _⟩, ?_⟩
      exact (((below_drewN B0.out _).setCell (by simp) _).setCell (by simp) _).setCell (by simp) _
    · have hq : inB sd 0 2147483647 = false := by rw [hv, hi] at ho; simpa using ho
      rw [hv] at C76
      rw [hi] at C98
      rw [hq] at C84
      have H76 := Lib.hid C76; have H98 := Lib.hid C98; have H84 := Lib.hid C84
      clear C76 C98 C84 hv hi ho hq
      go_enter Try.func67, Try.ntmps67
      go_wp2_with fail
      rw [← hW0]
      clear hW0
      obtain ⟨k0, k1, k2⟩ := K0.out
      refine H76.out.mono ?_
      rintro e w1 ⟨rfl, m1, rfl⟩
      clear k0 k1 k2
      obtain ⟨⟨x0, x1, x2⟩, y0, y1, y2⟩ := X0.out
      go_wp2_with fail
      refine (H98.out _).mono ?_
      rintro e w' ⟨rfl, rfl⟩
      go_wp2_with fail
      refine (H84.out _).mono ?_
      rintro e w' ⟨rfl, rfl⟩
      go_wp2
      refine bodyPost_ret (v := .tuple #[.agg #[.int .i64 0, .int .i64 0, .slice none 0 0], .int .i64 0, .bool false]) (by simp [results, Try.results67, go_sem, x0, x1, x2]) rfl ⟨⟨none, 0, rfl, World.ownsRow_nil _ _ _ _⟩, ?_⟩
      exact (((below_drewN B0.out _).setCell (by simp) _).setCell (by simp) _).setCell (by simp) _
theorem specGrow_any (wd hg : Int) (A : Option Addr) (n c : Nat) (cnt sd : Int) (bs : List Bool) (w : World) (hn : bs.length = n) (hn1 : n ≤ 1048576) (hr : Rd w w.heap.size A (bs.map Value.bool)) :
    Calls Try.prog 67 #[.agg #[.int .i64 wd, .int .i64 hg, .slice A n c], .int .i64 cnt, .int .i64 sd] w fun e w' => GivesGrow w.heap.size wd hg (growR wd hg cnt sd bs) e w' ∧ Below w.heap.size w w' := by
  unfold growR
  rw [hn]
  cases ho : growOk wd hg n cnt sd
  · exact (specGrow_no wd hg A n c cnt sd w hn1 ho).mono fun e w' h => ⟨gives_none (by simp) h.1, h.2⟩
  · rw [if_pos rfl]
    unfold growOk at ho
    rw [Bool.and_eq_true, Bool.and_eq_true, inB_iff, inB_iff] at ho
    obtain ⟨hv, ⟨a0, a1⟩, b0, b1⟩ := ho
    have C := specGrow_yes wd hg A n c cnt.toNat sd bs w hn hr hv (by omega) b0 b1
    rwa [show ((cnt.toNat : Nat) : Int) = cnt from by omega] at C
end Go.Proofs.Ytbefcfdmaafghaa
