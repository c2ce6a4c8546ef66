/- GrowEdge, the program's way. -/
import Derived.Test.YtbefcfdmaafghaaGrowPlain
namespace Go.Proofs.Ytbefcfdmaafghaa
open Go.RowKit
theorem add_flat0 (g o j : Nat) : (⟨g, o, none⟩ : Addr).add j = ⟨g, o + j, none⟩ := by
  unfold Addr.add
  split
  · rename_i h; simp
  · rfl
theorem isWalk_any (z : Int) (w : World) : Calls Try.prog 109 #[.int .i64 z] w fun e w' => e = .returned (.bool (inB z 0 512)) ∧ w = w' := by
  go_enter Try.func109, Try.ntmps109
  go_wp2_with (go_at_call 105; refine (within_any _ _ _ _).mono ?_; rintro e w' ⟨rfl, rfl⟩)
  go_ret
  exact ⟨rfl, rfl⟩
/-- the contract of 'touches' at a field's cells -/
def touchesC (wd hg : Int) (n : Nat) (bj : List Bool) : Prop := ∀ (W : World) (A : Option Addr) (c k : Nat), k < n → Rd W W.heap.size A (bj.map Value.bool) →
  Calls Try.prog 106 #[.agg #[.int .i64 wd, .int .i64 hg, .slice A n c], .int .i64 k] W fun e w' => e = .returned (.bool (touchB wd hg bj k)) ∧ Below W.heap.size W w'
theorem new1 (w : World) (a : Value) (t : TypeId) : ∀ j u, [a][j]? = some u → (w.alloc (.cells #[a] t)).cell? ((⟨w.heap.size, 0, none⟩ : Addr).add j) = some u := by
  intro j u hu
  rw [add_flat0]
  rcases j with _ | j
  · simp at hu; subst hu; simp
  · simp at hu
theorem one1 (k : IntKind) (x : Int) : ∀ u ∈ [Value.int k x], u.oneCell' = true := by
  intro u hu
  simp at hu
  subst hu
  rfl
theorem own_drewN' {w : World} {base : Nat} {e : TypeId} {size : Nat} {v : Value} {n : Nat} {xs : List Value} (h : w.ownsRow base e size v n xs) (q : Nat) : (w.drewN q).ownsRow base e size v n xs := h
set_option maxHeartbeats 4000000 in
set_option maxRecDepth 100000 in
theorem growEdge_yes (wd hg : Int) (A : Option Addr) (n c cn : Nat) (sd : Int) (bs : List Bool) (w : World) (hn : bs.length = n) (hr : Rd w w.heap.size A (bs.map Value.bool))
    (hv : vF wd hg n = true) (hcn : cn ≤ 512) (hs0 : 0 ≤ sd) (hs1 : sd ≤ 2147483647) :
    Calls Try.prog 68 #[.agg #[.int .i64 wd, .int .i64 hg, .slice A n c], .int .i64 cn, .int .i64 sd] w fun e w' => GivesGrow w.heap.size wd hg (growN wd hg cn bs sd) e w' ∧ Below w.heap.size w w' := by
  obtain ⟨⟨⟨h1, h2⟩, h3, h4⟩, h5⟩ := vF_iff.1 hv
  obtain ⟨q1, q2⟩ := prod_bd h1 h2 h3 h4
  have n0 : 0 < n := by omega
  have n1 : n ≤ 256 := by omega
  obtain ⟨i0, hi, hz0, hz1, hz2⟩ := info_parts Try.info2
  have C22 := fun W => validField_any wd hg A n c W (by omega)
  have C101 := fun W hr => copyField_any wd hg A n c bs W hn n0 (by omega) hr
  have C109 := fun W => isWalk_any (cn : Int) W
  have C87 := fun W => isSeed_any sd W
  rw [hv] at C22
  rw [inB_t (by omega) (by omega)] at C109
  rw [inB_t hs0 hs1] at C87
  have H22 := Lib.hid C22; have H101 := Lib.hid C101; have H109 := Lib.hid C109; have H87 := Lib.hid C87
  have Hr := Lib.hid hr; have Hn := Lib.hid hn
  have H5 := Lib.hid h5
  clear C22 C101 C109 C87 hr hn hv h5
  obtain ⟨W0, hW0⟩ : ∃ W0, W0 = (w.alloc (.cells #[.int .i64 wd, .int .i64 hg, .slice A n c] 27)).alloc (.cells #[.int .i64 0, .int .i64 0, .slice none 0 0] 27) := ⟨_, rfl⟩
  have B0 : Hid (Below w.heap.size w W0) := Lib.hid (by rw [hW0]; exact bthen (below_new w _) (below_new _ _))
  have z0 : W0.heap.size = w.heap.size + 2 := by rw [hW0]; simp
  have K0 : FBox W0 w.heap.size wd hg (.slice A n c) := by rw [hW0]; exact ⟨by simp [go_sem], by simp [go_sem], by simp [go_sem]⟩
  have X0 : Hid (Open3 W0 (w.heap.size + 1)) := Lib.hid (by rw [hW0]; simpa using Open3.new (w.alloc (.cells #[.int .i64 wd, .int .i64 hg, .slice A n c] 27)))
  have R0 := Lib.hid ((Hr.out.below B0.out).more B0.out.size)
  go_enter Try.func68, Try.ntmps68
  go_wp2_with fail
  rw [← hW0]
  have hz0' : w.heap.size + 1 < W0.heap.size := by omega
  clear hW0 z0
  have K0 := Lib.hid K0
  obtain ⟨k0, k1, k2⟩ := K0.out
  refine (H22.out _).mono ?_
  rintro e w1 ⟨rfl, hb1⟩
  have B1 := Lib.hid hb1
  clear hb1 k0 k1 k2
  obtain ⟨k0, k1, k2⟩ := K0.out.below B1.out (by omega)
  go_wp2_with (first | (go_at_call 109; refine (H109.out _).mono ?_; rintro e w' ⟨rfl, rfl⟩) | (go_at_call 87; refine (H87.out _).mono ?_; rintro e w' ⟨rfl, rfl⟩) | fail)
  refine (H101.out _ ((R0.out.below B1.out).more B1.out.size)).mono ?_
  rintro e w4 ⟨hgf, hb4⟩
  obtain ⟨g, cp, rfl, ho4⟩ := hgf.parts
  rw [Hn.out] at ho4 ⊢
  have hg4 := (ho4.lt g rfl).1
  have B4 := Lib.hid (bthen B1.out hb4)
  have hz3 := B1.out.size
  have hz4 := hb4.size
  have hgz := (ho4.lt g rfl).2
  have O4 := Lib.hid (own_base (b' := W0.heap.size) ho4 hz3)
  clear hgf ho4 hb4 B1 k0 k1 k2
  go_wp2_with fail
  obtain ⟨W5, hW5⟩ : ∃ W5, W5 = w4.alloc (.cells #[.int .i64 wd, .int .i64 hg, .slice (some ⟨g, 0, none⟩) n cp] 27) := ⟨_, rfl⟩
  rw [← hW5]
  have hb5 : Below w4.heap.size w4 W5 := by rw [hW5]; exact below_new _ _
  have K5 : Hid (FBox W5 w4.heap.size wd hg (.slice (some ⟨g, 0, none⟩) n cp)) := Lib.hid (by rw [hW5]; exact FBox.new _ _ _ _ _)
  have B5 := Lib.hid (bthen B4.out hb5)
  have O5 := Lib.hid (own_next O4.out hb5)
  have hz5 : w4.heap.size < W5.heap.size := by rw [hW5]; simp
  have X5 := Lib.hid (X0.out.below B5.out (by omega))
  clear hW5 hb5 B4 O4
  go_loopw [2, 32] (fun s i wr => ∃ (j : Nat) (bj : List Bool) (sj : Int), j ≤ cn ∧ i = .int .i64 j ∧ s = .int .i64 sj ∧ 0 ≤ sj ∧ sj ≤ 2147483647 ∧ bj.length = n ∧ Hid (growN wd hg cn bs sd = growN wd hg (cn - j) bj sj) ∧ wr.ownsRow W0.heap.size 4 1 (.slice (some ⟨g, 0, none⟩) n cp) n (bj.map Value.bool) ∧ FBox wr w4.heap.size wd hg (.slice (some ⟨g, 0, none⟩) n cp) ∧ Open3 wr (w.heap.size + 1) ∧ Below w.heap.size w wr ∧ W5.heap.size ≤ wr.heap.size) (fun _ i _ => cn - (intOf i).toNat)
  case atStart => exact ⟨0, bs, sd, Nat.zero_le _, rfl, rfl, hs0, hs1, Hn.out, Lib.hid (by rw [Nat.sub_zero]), O5.out, K5.out, X5.out, B0.out.trans (B5.out.mono B0.out.size), Nat.le_refl _⟩
  case round =>
    obtain ⟨j, bj, sj, hj, rfl, rfl, s0, s1, hbj, HG, ho, hkx, hxx, hb, hzr⟩ := hrel
    obtain ⟨wo, rfl⟩ : ∃ wo : World, wo = wr := ⟨_, rfl⟩
    have HO := Lib.hid ho
    have HK := Lib.hid hkx
    have HX := Lib.hid hxx
    have HB := Lib.hid hb
    have Hbj := Lib.hid hbj
    clear ho hkx hxx hb hbj
    by_cases hlt : j < cn
    · obtain ⟨k0, k1, k2⟩ := HK.out
      have hgr := (HO.out.lt g rfl).2
      have hw4 : w4.heap.size < wo.heap.size := by omega
      have RO := Lib.hid (Rd.own HO.out)
      have HN : Hid ((wo.alloc (.cells #[] 2)).ownsRow wo.heap.size 2 1 (.slice (some ⟨wo.heap.size, 0, none⟩) 0 0) 0 []) := Lib.hid (own_nil_made wo 2 _ (Nat.le_refl _))
      have TO : Hid (touchesC wd hg n bj) := Lib.hid (fun W A c k h6 hr => touches_any wd hg k A n c bj W Hbj.out h1 h2 h3 h4 H5.out (by omega) (by omega) hr)
      go_wp2_with fail
      clear k0 k1 k2
      go_loopw [10, 38] (fun v i wr => ∃ k : Nat, k ≤ n ∧ i = .int .i64 k ∧ wr.ownsRow wo.heap.size 2 1 v (edgeK wd hg bj k).length ((edgeK wd hg bj k).map (Value.int .i64)) ∧ Below wo.heap.size wo wr) (fun _ i _ => n - (intOf i).toNat)
      case atStart => exact ⟨0, Nat.zero_le _, rfl, HN.out, below_new _ _⟩
      case round =>
        obtain ⟨k, hk, rfl, hown, hbi⟩ := hrel
        have HE := Lib.hid hown
        have HBI := Lib.hid hbi
        clear hown hbi
        have hle := edgeK_len wd hg bj k
        by_cases hkn : k < n
        · have hkb : k < bj.length := by rw [Hbj.out]; exact hkn
          have hfk : full bj (k : Int) = bj[k] := by unfold full; simp [List.getElem?_eq_getElem hkb]
          have RI := Lib.hid (RO.out.next HBI.out)
          have hc : wr.cell? ⟨g, k, none⟩ = some (.bool bj[k]) := by
            obtain ⟨ad, hade, _, hx⟩ := RI.out.at_ (k := k) (by rw [List.length_map]; exact hkb)
            obtain rfl : ad = ⟨g, 0, none⟩ := (Option.some.inj hade).symm
            rw [List.getElem_map, add_flat0, Nat.zero_add] at hx
            exact hx
          cases hbk : bj[k]
          · rw [hbk] at hc hfk
            obtain ⟨k0, k1, k2⟩ := HK.out.below HBI.out hw4
            cases htk : touchB wd hg bj k
            · have HS := Lib.hid (edgeK_no (wd := wd) (hg := hg) (bs := bj) (k := k) (.inr htk))
              have CT := TO.out wr (some ⟨g, 0, none⟩) cp k hkn RI.out
              rw [htk] at CT
              have HCT := Lib.hid CT
              clear hbk hfk htk CT
              go_wp2_with fail
              refine HCT.out.mono ?_
              rintro e w6 ⟨rfl, hb6⟩
              have HB6 := Lib.hid (HBI.out.trans (hb6.mono HBI.out.size))
              have HE6 := Lib.hid (own_next HE.out hb6)
              clear hb6 k0 k1 k2 hc
              go_wp2
              go_roundw
              case rel => exact ⟨k + 1, by omega, by go_num, by rw [HS.out]; exact HE6.out, HB6.out⟩
              case measure => simp [intOf]; omega
            · have HS := Lib.hid (edgeK_yes (wd := wd) (hg := hg) (bs := bj) (k := k) hfk htk)
              have CT := TO.out wr (some ⟨g, 0, none⟩) cp k hkn RI.out
              rw [htk] at CT
              have HCT := Lib.hid CT
              clear hbk hfk htk CT
              go_wp2_with fail
              refine HCT.out.mono ?_
              rintro e w6 ⟨rfl, hb6⟩
              have HB6 := Lib.hid (HBI.out.trans (hb6.mono HBI.out.size))
              have HE6 := Lib.hid (own_next HE.out hb6)
              clear hb6 k0 k1 k2 hc
              go_wp2_with (at_builtin; go_must (refine wpList_append_own _ rfl (.tmp 50) (.tmp 52) 66 rfl wo.heap.size 2 i0 (.int .i64 0) 1 8 Try.underlying66 hi hz0 hz1 hz2 rfl (by decide) _ _ _ rfl (HE6.out.alloc _) ⟨w6.heap.size, 0, none⟩ 1 1 [.int .i64 k] rfl rfl (new1 w6 _ 2) (one1 _ _) ?_ ?_ ?_ ?_))
              · unfold maxLen; omega
              · omega
              · have := HB6.out.size; simp; omega
              intro v' w7 hown' hgrow _
              have HE7 := Lib.hid (own_app1 hown')
              have HB7 := Lib.hid ((HB6.out.alloc HB6.out.size _).grown hgrow (by have := HB6.out.size; simp; omega) (fun q hq => (HE6.out.lt q hq).1))
              clear hown' hgrow
              go_wp2
              go_roundw
              case rel => exact ⟨k + 1, by omega, by go_num, by rw [HS.out]; exact HE7.out, HB7.out⟩
              case measure => simp [intOf]; omega
          · rw [hbk] at hc hfk
            have HS := Lib.hid (edgeK_no (wd := wd) (hg := hg) (bs := bj) (k := k) (.inl hfk))
            clear hbk hfk
            go_wp2
            go_roundw
            case rel => exact ⟨k + 1, by omega, by go_num, by rw [HS.out]; exact HE.out, HBI.out⟩
            case measure => simp [intOf]; omega
        · have hkn' : k = bj.length := by rw [Hbj.out]; omega
          obtain ⟨A2, c2, rfl, hr2⟩ := own_shape HE.out
          have hlb := edgeK_bd wd hg bj k
          have hln := edgeK_len wd hg bj k
          obtain ⟨l, hl⟩ : ∃ l, l = edgeK wd hg bj k := ⟨_, rfl⟩
          rw [← hl] at hr2 hlb hln ⊢
          have HLE : Hid (l = edgeK wd hg bj bj.length) := Lib.hid (by rw [hl, hkn'])
          have HLB := Lib.hid hlb
          have R2 := Lib.hid hr2
          have hln' : l.length ≤ n := by omega
          have hgw : wo.heap.size ≤ wr.heap.size := HBI.out.size
          have HX2 := Lib.hid (HX.out.below HBI.out (by omega))
          have HK2 := Lib.hid (HK.out.below HBI.out hw4)
          have HO2 := Lib.hid (own_next HO.out HBI.out)
          have HB2 := Lib.hid (bthen HB.out HBI.out)
          have hkle : k ≤ n := hk
          clear hl hlb hln hr2 hkn' hle HE
          by_cases hl0 : l = []
          · have HF : Hid (growN wd hg cn bs sd = none) := Lib.hid (by rw [HG.out]; exact growN_stop (by omega) (by rw [← HLE.out]; exact hl0))
            obtain ⟨⟨x0, x1, x2⟩, y0, y1, y2⟩ := HX2.out
            have hll : l.length = 0 := by rw [hl0]; rfl
            rw [hll]
            clear hll hl0
            go_wp2
            refine bodyPost_ret (v := .tuple #[.agg #[.int .i64 0, .int .i64 0, .slice none 0 0], .int .i64 0, .bool false]) (by simp [results, Try.results68, go_sem, x0, x1, x2]) rfl ⟨gives_none HF.out ⟨none, 0, rfl, World.ownsRow_nil _ _ _ _⟩, ?_⟩
            exact (((HB2.out.setCell (by simp) _).setCell (by simp) _).setCell (by simp) _)
          · have hlp := List.length_pos_iff.2 hl0
            obtain ⟨hpk, hpe⟩ := pick_at (sd := sj) hl0
            have HF : Hid (growN wd hg cn bs sd = growN wd hg (cn - (j + 1)) (bj.set (pick l sj).toNat true) (nxt sj)) := Lib.hid (by
              rw [HG.out, growN_step (by omega) (by rw [← HLE.out]; exact hl0), ← HLE.out, Nat.sub_sub])
            obtain ⟨nx0, nx1⟩ := nxt_bd sj
            obtain ⟨d0, d1⟩ := drw_bd (s := sj) (n := l.length) (by omega)
            have CD := fun W => drawBelow_any sj (l.length : Int) W s0 s1 (by omega) (by omega)
            have HCD := Lib.hid CD
            obtain ⟨p0, p1⟩ := HLB.out _ (List.getElem_mem hpk)
            rw [← hpe] at p0 p1
            have hlz : ¬ ((l.length : Int) = 0) := by omega
            have hlz2 : ((l.length : Int) == 0) = false := by simpa using hl0
            obtain ⟨ad2, rfl, _, hcd⟩ := R2.out.at_ (k := (drw sj l.length).toNat) (by rw [List.length_map]; exact hpk)
            rw [List.getElem_map, ← hpe] at hcd
            obtain ⟨x, hx⟩ : ∃ x, x = pick l sj := ⟨_, rfl⟩
            rw [← hx] at hcd p0 p1 HF
            obtain ⟨d, hd⟩ : ∃ d, d = drw sj (l.length : Int) := ⟨_, rfl⟩
            rw [← hd] at hcd d0 d1 HCD
            obtain ⟨z, hz⟩ : ∃ z, z = nxt sj := ⟨_, rfl⟩
            rw [← hz] at nx0 nx1 HCD HF
            have p2 : x < (n : Int) := by omega
            clear hpe hpk CD hx hd hz p1 hl0
            go_wp2_with fail
            refine (HCD.out _).mono ?_
            rintro e w8 ⟨rfl, m8, rfl⟩
            obtain ⟨wq, hwq⟩ : ∃ wq, wq = wr.drewN m8 := ⟨_, rfl⟩
            rw [← hwq]
            have hcq : wq.cell? (ad2.add d.toNat) = some (.int .i64 x) := by rw [hwq]; exact hcd
            have HOq : Hid (wq.ownsRow W0.heap.size 4 1 (.slice (some ⟨g, 0, none⟩) n cp) n (bj.map Value.bool)) := Lib.hid (by rw [hwq]; exact own_drewN' HO2.out _)
            have HBq : Hid (Below w.heap.size w wq) := Lib.hid (by rw [hwq]; exact below_drewN HB2.out _)
            have HKq : Hid (FBox wq w4.heap.size wd hg (.slice (some ⟨g, 0, none⟩) n cp)) := Lib.hid (by rw [hwq]; exact HK2.out)
            have HXq : Hid (Open3 wq (w.heap.size + 1)) := Lib.hid (by rw [hwq]; exact HX2.out)
            have hzq : wq.heap.size = wr.heap.size := by rw [hwq]; rfl
            have hzq' : wo.heap.size ≤ wq.heap.size := by omega
            clear hwq hcd HO2 HB2 HK2 HX2 hzq
            have hxl : x.toNat < bj.length := by rw [Hbj.out]; omega
            have hc : wq.cell? ⟨g, x.toNat, none⟩ = some (.bool bj[x.toNat]) := by
              rw [HOq.out.cellAt x.toNat (by omega), List.getElem?_map, List.getElem?_eq_getElem hxl]; rfl
            have hf := HOq.out.frozenAt x.toNat
            have HT := Lib.hid (set_stored (x := x) HOq.out (World.grownBy.refl wq (some g)))
            have HKs := Lib.hid (HKq.out.grown HT.out.2 (by omega) (by intro h; injection h; omega))
            have HXs := Lib.hid (HXq.out.grown HT.out.2 (by omega) (by intro h; injection h; omega))
            have HBs := Lib.hid (HBq.out.setCell (p := ⟨g, x.toNat, none⟩) (by show w.heap.size ≤ g; omega) (.bool true))
            obtain ⟨y, hy⟩ : ∃ y, y = bj[x.toNat]'hxl := ⟨_, rfl⟩
            rw [← hy] at hc
            obtain ⟨k0, k1, k2⟩ := HKq.out
            clear hy hxl
            go_wp2_with fail
            go_still_tail 7, (by kernel_rfl)
            change wpList _ _ _ _ _ wq.drew
            go_wp2
            go_roundw
            case rel => exact ⟨j + 1, bj.set x.toNat true, z, by omega, by go_num, rfl, nx0, nx1, by rw [List.length_set]; exact Hbj.out, HF.out, own_drew HT.out.1, HKs.out, HXs.out, Below.drew HBs.out, by show W5.heap.size ≤ (wq.setCell _ _).heap.size; rw [World.size_setCell]; omega⟩
            case measure => simp [intOf]; omega
    · have hjc : j = cn := by omega
      have HF : Hid (growN wd hg cn bs sd = some (bj, sj)) := Lib.hid (by rw [HG.out, hjc, Nat.sub_self]; rfl)
      have hgr := (HO.out.lt g rfl).2
      have hw4 : w4.heap.size < wo.heap.size := by omega
      obtain ⟨k0, k1, k2⟩ := HK.out
      obtain ⟨⟨x0, x1, x2⟩, y0, y1, y2⟩ := HX.out
      go_wp2
      refine bodyPost_ret (v := .tuple #[.agg #[.int .i64 wd, .int .i64 hg, .slice (some ⟨g, 0, none⟩) n cp], .int .i64 sj, .bool true]) (by simp [results, Try.results68, go_sem, x0, x1, x2]) rfl ⟨gives_some HF.out ⟨some ⟨g, 0, none⟩, cp, by rw [Hbj.out], ?_⟩, ?_⟩
      · rw [Hbj.out]
        have hO := HO.out
        exact own_set (own_set (own_set (own_base hO B0.out.size) (by rintro a ⟨⟩; simp; omega) _) (by rintro a ⟨⟩; simp; omega) _) (by rintro a ⟨⟩; simp; omega) _
      · exact (((HB.out.setCell (by simp) _).setCell (by simp) _).setCell (by simp) _)
def growOk (wd hg : Int) (n : Nat) (cnt sd : Int) : Bool := vF wd hg n && (inB cnt 0 512 && inB sd 0 2147483647)
def growR (wd hg cnt sd : Int) (bs : List Bool) : Option (List Bool × Int) := if growOk wd hg bs.length cnt sd = true then growN wd hg cnt.toNat bs sd else none
set_option maxHeartbeats 2000000 in
set_option maxRecDepth 100000 in
theorem growEdge_no (wd hg : Int) (A : Option Addr) (n c : Nat) (cnt sd : Int) (w : World) (hn : n ≤ 1048576) (ho : growOk wd hg n cnt sd = false) :
    Calls Try.prog 68 #[.agg #[.int .i64 wd, .int .i64 hg, .slice A n c], .int .i64 cnt, .int .i64 sd] w fun e w' => GivesFIB w.heap.size 0 0 [] 0 false e w' ∧ Below w.heap.size w w' := by
  have C22 := fun W => validField_any wd hg A n c W (by omega)
  have C109 := fun W => isWalk_any cnt W
  have C87 := fun W => isSeed_any sd W
  obtain ⟨W0, hW0⟩ : ∃ W0, W0 = (w.alloc (.cells #[.int .i64 wd, .int .i64 hg, .slice A n c] 27)).alloc (.cells #[.int .i64 0, .int .i64 0, .slice none 0 0] 27) := ⟨_, rfl⟩
  have B0 : Hid (Below w.heap.size w W0) := Lib.hid (by rw [hW0]; exact bthen (below_new w _) (below_new _ _))
  have z0 : W0.heap.size = w.heap.size + 2 := by rw [hW0]; simp
  have K0 : Hid (FBox W0 w.heap.size wd hg (.slice A n c)) := Lib.hid (by rw [hW0]; exact ⟨by simp [go_sem], by simp [go_sem], by simp [go_sem]⟩)
  have X0 : Hid (Open3 W0 (w.heap.size + 1)) := Lib.hid (by rw [hW0]; simpa using Open3.new (w.alloc (.cells #[.int .i64 wd, .int .i64 hg, .slice A n c] 27)))
  have hz0 : w.heap.size + 1 < W0.heap.size := by omega
  clear z0
  unfold growOk at ho
  cases hv : vF wd hg n
  · rw [hv] at C22
    have H22 := Lib.hid C22
    clear C22 C109 C87 hv ho
    go_enter Try.func68, Try.ntmps68
    go_wp2_with fail
    rw [← hW0]
    clear hW0
    obtain ⟨k0, k1, k2⟩ := K0.out
    refine (H22.out _).mono ?_
    rintro e w1 ⟨rfl, hb1⟩
    have B1 := Lib.hid hb1
    clear hb1 k0 k1 k2
    obtain ⟨⟨x0, x1, x2⟩, y0, y1, y2⟩ := X0.out.below B1.out hz0
    go_wp2
    refine bodyPost_ret (v := .tuple #[.agg #[.int .i64 0, .int .i64 0, .slice none 0 0], .int .i64 0, .bool false]) (by simp [results, Try.results68, go_sem, x0, x1, x2]) rfl ⟨⟨none, 0, rfl, World.ownsRow_nil _ _ _ _⟩, ?_⟩
    exact ((((B0.out.trans (B1.out.mono B0.out.size)).setCell (by simp) _).setCell (by simp) _).setCell (by simp) _)
  · cases hi : inB cnt 0 512
    · rw [hv] at C22
      rw [hi] at C109
      have H22 := Lib.hid C22; have H109 := Lib.hid C109
      clear C22 C109 C87 hv hi ho
      go_enter Try.func68, Try.ntmps68
      go_wp2_with fail
      rw [← hW0]
      clear hW0
      obtain ⟨k0, k1, k2⟩ := K0.out
      refine (H22.out _).mono ?_
      rintro e w1 ⟨rfl, hb1⟩
      have B1 := Lib.hid hb1
      clear hb1 k0 k1 k2
      obtain ⟨⟨x0, x1, x2⟩, y0, y1, y2⟩ := X0.out.below B1.out hz0
      go_wp2_with fail
      refine (H109.out _).mono ?_
      rintro e w' ⟨rfl, rfl⟩
      go_wp2
      refine bodyPost_ret (v := .tuple #[.agg #[.int .i64 0, .int .i64 0, .slice none 0 0], .int .i64 0, .bool false]) (by simp [results, Try.results68, go_sem, x0, x1, x2]) rfl ⟨⟨none, 0, rfl, World.ownsRow_nil _ _ _ _⟩, ?_⟩
      exact ((((B0.out.trans (B1.out.mono B0.out.size)).setCell (by simp) _).setCell (by simp) _).setCell (by simp) _)
    · have hq : inB sd 0 2147483647 = false := by rw [hv, hi] at ho; simpa using ho
      rw [hv] at C22
      rw [hi] at C109
      rw [hq] at C87
      have H22 := Lib.hid C22; have H109 := Lib.hid C109; have H87 := Lib.hid C87
      clear C22 C109 C87 hv hi ho hq
      go_enter Try.func68, Try.ntmps68
      go_wp2_with fail
      rw [← hW0]
      clear hW0
      obtain ⟨k0, k1, k2⟩ := K0.out
      refine (H22.out _).mono ?_
      rintro e w1 ⟨rfl, hb1⟩
      have B1 := Lib.hid hb1
      clear hb1 k0 k1 k2
      obtain ⟨⟨x0, x1, x2⟩, y0, y1, y2⟩ := X0.out.below B1.out hz0
      go_wp2_with fail
      refine (H109.out _).mono ?_
      rintro e w' ⟨rfl, rfl⟩
      go_wp2_with fail
      refine (H87.out _).mono ?_
      rintro e w' ⟨rfl, rfl⟩
      go_wp2
      refine bodyPost_ret (v := .tuple #[.agg #[.int .i64 0, .int .i64 0, .slice none 0 0], .int .i64 0, .bool false]) (by simp [results, Try.results68, go_sem, x0, x1, x2]) rfl ⟨⟨none, 0, rfl, World.ownsRow_nil _ _ _ _⟩, ?_⟩
      exact ((((B0.out.trans (B1.out.mono B0.out.size)).setCell (by simp) _).setCell (by simp) _).setCell (by simp) _)
theorem growEdge_any (wd hg : Int) (A : Option Addr) (n c : Nat) (cnt sd : Int) (bs : List Bool) (w : World) (hn : bs.length = n) (hn1 : n ≤ 1048576) (hr : Rd w w.heap.size A (bs.map Value.bool)) :
    Calls Try.prog 68 #[.agg #[.int .i64 wd, .int .i64 hg, .slice A n c], .int .i64 cnt, .int .i64 sd] w fun e w' => GivesGrow w.heap.size wd hg (growR wd hg cnt sd bs) e w' ∧ Below w.heap.size w w' := by
  unfold growR
  rw [hn]
  cases ho : growOk wd hg n cnt sd
  · exact (growEdge_no wd hg A n c cnt sd w hn1 ho).mono fun e w' h => ⟨gives_none (by simp) h.1, h.2⟩
  · rw [if_pos rfl]
    unfold growOk at ho
    rw [Bool.and_eq_true, Bool.and_eq_true, inB_iff, inB_iff] at ho
    obtain ⟨hv, ⟨a0, a1⟩, b0, b1⟩ := ho
    have C := growEdge_yes wd hg A n c cnt.toNat sd bs w hn hr hv (by omega) b0 b1
    rwa [show ((cnt.toNat : Nat) : Int) = cnt from by omega] at C
end Go.Proofs.Ytbefcfdmaafghaa
