/- TalusStep, the program's way. -/
import Derived.Test.YtcpimcjmckljfaaTalus
import Derived.Deep.RegionLaw
import Derived.Deep.DeepCutAuto
namespace Go.Proofs.Ytcpimcjmckljfaa
open Ieee Go.RowKit
theorem setF {w wx : World} {B n g cp j r : Nat} {o : List Nat} (ho : w.ownsRow B 23 1 (.slice (some ⟨g, 0, none⟩) n cp) n (o.map (Value.float .f32))) (hx : ∃ q, wx = (w.drewN q).setCell ⟨g, j, none⟩ (.float .f32 r)) :
    wx.ownsRow B 23 1 (.slice (some ⟨g, 0, none⟩) n cp) n ((o.set j r).map (Value.float .f32)) ∧ w.grownBy wx (some g) := by
  obtain ⟨q, rfl⟩ := hx
  have h1 := (own_drw ho ⟨q, rfl⟩).stored j (.float .f32 r)
  rw [List.map_set]
  exact ⟨h1.1, h1.2.os, h1.2.tape, h1.2.output, h1.2.size, h1.2.block⟩
theorem getD_at {o : List Nat} {j : Nat} (h : j < o.length) : o.getD j 0 = o[j] := by rw [List.getD_eq_getElem?_getD, List.getElem?_eq_getElem h]; rfl
theorem row_cell {w : World} {B n g cp j : Nat} {o : List Nat} (ho : w.ownsRow B 23 1 (.slice (some ⟨g, 0, none⟩) n cp) n (o.map (Value.float .f32))) (hl : o.length = n) (h : j < n) : w.cell? ⟨g, j, none⟩ = some (.float .f32 (o.getD j 0)) := by
  rw [ho.cellAt j (by omega), List.getElem?_map, List.getElem?_eq_getElem (by omega), getD_at (by omega)]
  rfl
theorem own_kept {w w' : World} {B' b g : Nat} {l : List Int} {A : Option Addr} {c : Nat} (h : w.ownsRow b 2 1 (.slice A l.length c) l.length (l.map (Value.int .i64))) (hg : w.grownBy w' (some g)) (hlt : g < b) (_h : B' = B') : w'.ownsRow b 2 1 (.slice A l.length c) l.length (l.map (Value.int .i64)) := by
  refine h.kept hg ?_
  cases hk : (Value.slice A l.length c).ownBlock with
  | none => exact .inl rfl
  | some k => right; intro he; injection he with he; have := (h.lt k hk).1; omega
set_option maxHeartbeats 8000000 in
set_option maxRecDepth 100000 in
theorem talus_yes (wd hg : Int) (A : Option Addr) (n c t h : Nat) (xs : List Nat) (w : World) (hn : xs.length = n) (hr : Rd w w.heap.size A (xs.map (Value.float .f32)))
    (hv : vS wd hg xs = true) (ht : finB t = true) (g0 : geF t 0 = true) (g1 : geF h 0 = true) (g2 : leF h 1040187392 = true) :
    Calls Try.prog 27 #[.agg #[.int .i64 wd, .int .i64 hg, .slice A n c], .float .f32 t, .float .f32 h] w fun e w' => GivesTal w.heap.size wd hg (talR wd hg xs t h) e w' ∧ Below w.heap.size w w' := by
  have hA : Hid (talA wd hg xs t h = true) := Lib.hid (by unfold talA; rw [hv, ht, g0, g1, g2]; rfl)
  have hv' := hv
  unfold vS at hv'
  rw [Bool.and_eq_true] at hv'
  have HF := Lib.hid (finL_iff.1 hv'.2)
  obtain ⟨⟨⟨h1, h2⟩, h3, h4⟩, h5⟩ := vF_iff.1 hv'.1
  obtain ⟨q1, q2⟩ := prod_bd h1 h2 h3 h4
  rw [hn] at h5
  have n0 : 0 < n := by omega
  have n1 : n ≤ 289 := by omega
  have H5 := Lib.hid h5
  have HT := Lib.hid ht
  obtain ⟨W0, hW0⟩ : ∃ W0, W0 = (w.alloc (.cells #[.int .i64 wd, .int .i64 hg, .slice A n c] 41)).alloc (.cells #[.int .i64 0, .int .i64 0, .slice none 0 0] 41) := ⟨_, rfl⟩
  have B0 : Hid (Below w.heap.size w W0) := Lib.hid (by rw [hW0]; exact bthen (below_new w _) (below_new _ _))
  have z0 : W0.heap.size = w.heap.size + 2 := by rw [hW0]; simp
  have K0 : Hid (FBox W0 w.heap.size wd hg (.slice A n c)) := Lib.hid (by rw [hW0]; exact ⟨by simp [go_sem], by simp [go_sem], by simp [go_sem]⟩)
  have X0 : Hid (Open3 W0 (w.heap.size + 1)) := Lib.hid (by rw [hW0]; simpa using Open3.new (w.alloc (.cells #[.int .i64 wd, .int .i64 hg, .slice A n c] 41)))
  have R0 := Lib.hid ((hr.below B0.out).more B0.out.size)
  have K1 := Lib.hid (validSheet_any wd hg A n c xs W0 hn (by omega) R0.out)
  have C2 := fun W => isFinite_any t W
  rw [ht] at C2
  have HOWN := Lib.hid (fun W hr => copySheet_any wd hg A n c xs W hn n0 (by omega) hr)
  have HSD := Lib.hid (fun (i : Int) (W : World) (h6 : 0 ≤ i) (h7 : i < wd * hg) => sides_any wd hg i (.slice A n c) W h1 h2 h3 h4 h6 h7)
  have HVS := Lib.hid (show vS wd hg xs = true from hv)
  rw [hv] at K1
  have H2 := Lib.hid C2
  have e0 := g0
  have e1 := g1
  have e2 := g2
  unfold geF at e0 e1
  unfold leF at e2
  have hst := fun (a : Addr) (n : Nat) (m : Mode) (w : World) => run_store Try.prog w a (.float .f32 n) m rfl
  have Hn := Lib.hid hn
  clear C2 hr hn hv hv' ht g0 g1 g2 h5
  go_enter Try.func27, Try.ntmps27
  go_wp2_with fail
  rw [← hW0]
  have hz0' : w.heap.size + 1 < W0.heap.size := by omega
  clear hW0
  have z0' := Lib.hid z0
  clear z0
  obtain ⟨k0, k1, k2⟩ := K0.out
  refine K1.out.mono ?_
  rintro e w1 ⟨rfl, hb1⟩
  have B1 := Lib.hid hb1
  clear hb1 k0 k1 k2
  go_wp2_with fail
  refine (H2.out _).mono ?_
  rintro e w2 ⟨rfl, m2, hw2⟩
  have B2 : Hid (Below W0.heap.size W0 w2) := Lib.hid (by rw [hw2]; exact below_drewN B1.out _)
  clear hw2
  have zz2 := B2.out.size
  obtain ⟨k0, k1, k2⟩ := K0.out.below B2.out (by omega)
  go_wp2_with fail
  refine (HOWN.out _ ((R0.out.below B2.out).more B2.out.size)).mono ?_
  rintro e w4 ⟨hgf, hb4⟩
  obtain ⟨g, cp, rfl, ho4⟩ := hgf.parts
  rw [Hn.out] at ho4 ⊢
  have hg4 := (ho4.lt g rfl).1
  have B4 := Lib.hid (bthen B2.out hb4)
  have hz4 := hb4.size
  have hgz := (ho4.lt g rfl).2
  have O4 := Lib.hid (own_base (b' := W0.heap.size) ho4 zz2)
  have hgW : W0.heap.size ≤ g := by omega
  clear hgf ho4 hb4 B2 B1 k0 k1 k2 K1 H2
  obtain ⟨k0, k1, k2⟩ := K0.out.below B4.out (by omega)
  have hlw4 : w.heap.size < w4.heap.size := by omega
  go_wp2_with fail
  obtain ⟨W5, hW5⟩ : ∃ W5, W5 = w4.alloc (.cells #[.int .i64 wd, .int .i64 hg, (.slice (some ⟨g, 0, none⟩) n cp)] 41) := ⟨_, rfl⟩
  rw [← hW5]
  have hb5 : Below w4.heap.size w4 W5 := by rw [hW5]; exact below_new _ _
  have K5 : Hid (FBox W5 w4.heap.size wd hg (.slice (some ⟨g, 0, none⟩) n cp)) := Lib.hid (by rw [hW5]; exact FBox.new _ _ _ _ _)
  have B5 := Lib.hid (bthen B4.out hb5)
  have O5 := Lib.hid (own_next O4.out hb5)
  have hz5 : w4.heap.size < W5.heap.size := by rw [hW5]; simp
  have zW4 : W0.heap.size ≤ w4.heap.size := by omega
  clear hW5 hb5 B4 O4 k0 k1 k2
  go_loopw [10, 45] (fun sv iv wr => ∃ (j : Nat) (o : List Nat) (z : Nat), j ≤ n ∧ iv = .int .i64 j ∧ sv = .float .f32 z ∧ o.length = n ∧ Hid (SimS (o, z) (talusK wd hg xs t h j)) ∧ wr.ownsRow W0.heap.size 23 1 (.slice (some ⟨g, 0, none⟩) n cp) n (o.map (Value.float .f32)) ∧ FBox wr w4.heap.size wd hg (.slice (some ⟨g, 0, none⟩) n cp) ∧ Below W0.heap.size W0 wr ∧ W5.heap.size ≤ wr.heap.size) (fun _ iv _ => n - (intOf iv).toNat)
  case atStart => exact ⟨0, xs, 0, Nat.zero_le _, rfl, rfl, Hn.out, Lib.hid ⟨.refl _, .refl _ _⟩, O5.out, K5.out, B5.out, Nat.le_refl _⟩
  case round =>
    obtain ⟨j, o, z, hj, rfl, rfl, hol, HS, ho, hkx, hb, hzr⟩ := hrel
    obtain ⟨wo, rfl⟩ : ∃ wo : World, wo = wr := ⟨_, rfl⟩
    have HO := Lib.hid ho
    have HK := Lib.hid hkx
    have HB := Lib.hid hb
    have Hol := Lib.hid hol
    clear ho hkx hb hol
    have hzo := HB.out.size
    have hgo := (HO.out.lt g rfl).2
    obtain ⟨k0, k1, k2⟩ := K0.out.below HB.out (by omega)
    by_cases hlt : j < n
    · have hjx : j < xs.length := by rw [Hn.out]; exact hlt
      have hjw : (j : Int) < wd * hg := by rw [← H5.out]; omega
      have HM := Lib.hid (nb_mem h1 hjw)
      have hNL := nb_le wd hg j
      obtain ⟨ad, hade, had, hcx⟩ := ((R0.out.below HB.out).more HB.out.size).at_ (k := j) (by rw [List.length_map]; exact hjx)
      rw [List.getElem_map] at hcx
      obtain ⟨a, ha⟩ : ∃ a, a = xs[j] := ⟨_, rfl⟩
      rw [← ha] at hcx
      have HGA : Hid (xs.getD j 0 = a) := Lib.hid (by rw [getD_at hjx, ha])
      have HFA : Hid (finB a = true) := Lib.hid (by rw [ha]; exact HF.out _ (List.getElem_mem hjx))
      have CSD := HSD.out j wo (by omega) hjw
      have HCSD := Lib.hid CSD
      have HAD := Lib.hid hade
      subst hade
      clear ha CSD
      go_wp2_with fail
      refine HCSD.out.mono ?_
      rintro e w6 ⟨⟨u, rfl, hou⟩, hb6⟩
      obtain ⟨A2, c2, rfl, _⟩ := shapeOf hou
      obtain ⟨l, hl⟩ : ∃ l, l = nb wd hg j := ⟨_, rfl⟩
      rw [← hl] at hou hNL HM ⊢
      have HL := Lib.hid hl
      have HU := Lib.hid hou
      have HO6 := Lib.hid (own_next HO.out hb6)
      have HK6 := Lib.hid (HK.out.below hb6 (by omega))
      have HB6 := Lib.hid (HB.out.trans (hb6.mono hzo))
      have hz6 := hb6.size
      clear hl hou hb6 k0 k1 k2 hcx HO HK HB HCSD
      go_wp2_with fail
      go_loopw [10, 54] (fun sv iv wr => ∃ (p : Nat) (o : List Nat) (z : Nat), p ≤ l.length ∧ iv = .int .i64 p ∧ sv = .float .f32 z ∧ o.length = n ∧ Hid (SimS (o, z) (slides xs t h j (l.take p) (talusK wd hg xs t h j))) ∧ wr.ownsRow W0.heap.size 23 1 (.slice (some ⟨g, 0, none⟩) n cp) n (o.map (Value.float .f32)) ∧ FBox wr w4.heap.size wd hg (.slice (some ⟨g, 0, none⟩) n cp) ∧ wr.ownsRow wo.heap.size 2 1 (.slice A2 l.length c2) l.length (l.map (Value.int .i64)) ∧ Below W0.heap.size W0 wr ∧ w6.heap.size ≤ wr.heap.size) (fun _ iv _ => l.length - (intOf iv).toNat)
      case atStart => exact ⟨0, o, z, Nat.zero_le _, rfl, rfl, Hol.out, HS, HO6.out, HK6.out, HU.out, HB6.out, Nat.le_refl _⟩
      case round =>
        obtain ⟨p, o1, z1, hp, rfl, rfl, hol1, HS1, ho1, hkx1, hu1, hb1, hzr1⟩ := hrel
        obtain ⟨wi, rfl⟩ : ∃ wi : World, wi = wr := ⟨_, rfl⟩
        have HO1 := Lib.hid ho1
        have HK1 := Lib.hid hkx1
        have HU1 := Lib.hid hu1
        have HB1 := Lib.hid hb1
        have Hol1 := Lib.hid hol1
        clear ho1 hkx1 hu1 hb1 hol1
        have hgi := (HO1.out.lt g rfl).2
        by_cases hpl : p < l.length
        · obtain ⟨ad2, hade2, _, hc2⟩ := (Rd.own HU1.out).at_ (k := p) (by rw [List.length_map]; exact hpl)
          rw [List.getElem_map] at hc2
          obtain ⟨x, hx⟩ : ∃ x, x = l[p] := ⟨_, rfl⟩
          rw [← hx] at hc2
          obtain ⟨x0, x1⟩ := HM.out x (by rw [hx]; exact List.getElem_mem hpl)
          rw [← H5.out] at x1
          have hST : Hid (slides xs t h j (l.take (p + 1)) (talusK wd hg xs t h j) = slide xs t h j (slides xs t h j (l.take p) (talusK wd hg xs t h j)) x) := Lib.hid (by rw [slides_take hpl, hx])
          have hkb : x.toNat < xs.length := by rw [Hn.out]; omega
          obtain ⟨ad', hade', _, hcb⟩ := ((R0.out.below HB1.out).more HB1.out.size).at_ (k := x.toNat) (by rw [List.length_map]; exact hkb)
          obtain rfl : ad = ad' := Option.some.inj hade'
          rw [List.getElem_map] at hcb
          obtain ⟨b, hbx⟩ : ∃ b, b = xs[x.toNat] := ⟨_, rfl⟩
          rw [← hbx] at hcb
          have HFB : Hid (finB b = true) := Lib.hid (by rw [hbx]; exact HF.out _ (List.getElem_mem hkb))
          have o1' := sub_num HFA.out (fin_num HFB.out)
          have o2' := sub_num' o1'.2 HT.out
          have hd0 : dropF xs t j x = fop .sub .f32 (fop .sub .f32 a b) t := by unfold dropF; rw [HGA.out, getD_at hkb, hbx]
          obtain ⟨d1, hd1⟩ : ∃ d1, d1 = fop .sub .f32 a b := ⟨_, rfl⟩
          rw [← hd1] at o1' o2' hd0
          obtain ⟨d, hd⟩ : ∃ d, d = fop .sub .f32 d1 t := ⟨_, rfl⟩
          rw [← hd] at o2' hd0
          have p1 := run_num (P := Try.prog) o1'.1
          have p2 := run_num (P := Try.prog) o2'.1
          have HD := Lib.hid hd0
          have HSS := HS1
          obtain ⟨st, hst'⟩ : ∃ st, st = slides xs t h j (l.take p) (talusK wd hg xs t h j) := ⟨_, rfl⟩
          rw [← hst'] at HSS hST
          obtain ⟨k0, k1, k2⟩ := K0.out.below HB1.out (by omega)
          subst hade2
          clear hx hbx hd1 hd hd0 o1' o2' hst' hade'
          cases hgt : gtF d 0
          · have HST2 : Hid (slide xs t h j st x = st) := Lib.hid (slide_no (by rw [HD.out]; exact hgt))
            have e3 := hgt
            unfold gtF at e3
            clear hgt
            go_wp2
            go_roundw
            case rel => exact ⟨p + 1, o1, z1, by omega, by go_num, rfl, Hol1.out, Lib.hid (by rw [hST.out, HST2.out]; exact HSS.out), HO1.out, HK1.out, HU1.out, HB1.out, hzr1⟩
            case measure => simp [intOf]; omega
          · have HST2 : Hid (slide xs t h j st x = (moved st.1 j x (fop .mul .f32 h d), fop .add .f32 st.2 (fop .mul .f32 h d))) := Lib.hid (by rw [slide_yes (by rw [HD.out]; exact hgt), HD.out])
            have e3 := hgt
            unfold gtF at e3
            clear hgt
            go_wp2_with (first | (refine wpList_fop rfl .mul 23 (.tmp 69) (.tmp 70) 23 rfl arith_mul .f32 _ _ rfl rfl ?_; intro r0 m0 h0))
            obtain ⟨wq, hwq⟩ : ∃ wq, wq = wi.drewN m0 := ⟨_, rfl⟩
            rw [← hwq]
            have hwe : ∃ q, wq = wi.drewN q := by rw [hwq]; exact ⟨_, by first | rfl | (simp only [World.drew_is_drewN, World.drewN_drewN]; rfl)⟩
            have H0 := Lib.hid h0
            have HQO := Lib.hid (own_drw HO1.out hwe)
            have HQU := Lib.hid (own_drw HU1.out hwe)
            have HQB := Lib.hid (below_drw HB1.out hwe)
            have HQK : Hid (FBox wq w4.heap.size wd hg (.slice (some ⟨g, 0, none⟩) n cp)) := Lib.hid (by obtain ⟨q, hq⟩ := hwe; rw [hq]; exact HK1.out)
            have hzq := size_drw hwe
            clear hwq hwe h0 k0 k1 k2 hcb p1 p2 e3 hc2
            have hc1 := row_cell HQO.out Hol1.out hlt
            have hf1 := HQO.out.frozenAt j
            obtain ⟨b0, b1, b2⟩ := HQK.out
            obtain ⟨v1, hv1⟩ : ∃ v1, v1 = o1.getD j 0 := ⟨_, rfl⟩
            rw [← hv1] at hc1
            have HV1 := Lib.hid hv1
            clear hv1
            obtain ⟨f1, m1, p1, s1⟩ := run_fopS (P := Try.prog) arith_sub 23 .f32 v1 r0
            have HS2 := Lib.hid s1
            clear s1
            go_upto_region 14 with fail
            go_cut [] (fun wx => ∃ r1 : Nat, Sim .f32 r1 (fop .sub .f32 v1 r0) ∧ wx.ownsRow W0.heap.size 23 1 (.slice (some ⟨g, 0, none⟩) n cp) n ((o1.set j r1).map (Value.float .f32)) ∧ wq.grownBy wx (some g))
            case first =>
              go_region_law (fail)
              all_goals
                go_wp2_with fail
                go_meet
                case rel => exact ⟨_, HS2.out _, setF HQO.out (by first | exact ⟨_, rfl⟩ | (simp only [World.drew_is_drewN, World.drewN_drewN]; exact ⟨_, rfl⟩))⟩
            case rest =>
            obtain ⟨r1, hr1, hO2, hg2⟩ := hcut
            obtain ⟨wd1, hwd1⟩ : ∃ x : World, x = wc := ⟨_, rfl⟩
            subst hwd1
            have HR1 : Hid (Sim .f32 r1 (fop .sub .f32 (o1.getD j 0) r0)) := Lib.hid (by rw [← HV1.out]; exact hr1)
            have HO2 := Lib.hid hO2
            have HU2 := Lib.hid (own_kept (B' := 0) HQU.out hg2 (by omega) rfl)
            have HB2 := Lib.hid (HQB.out.grown hg2 HQB.out.size (fun k hk => by injection hk; omega))
            have HK2 := Lib.hid (HQK.out.grown hg2 (by omega) (by intro h; injection h; omega))
            have hz2 := hg2.size
            clear hr1 hO2 hg2 hc1 hf1 b0 b1 b2 HV1 p1 HS2
            have Hol2 : Hid ((o1.set j r1).length = n) := Lib.hid (by rw [List.length_set]; exact Hol1.out)
            obtain ⟨o2, ho2⟩ : ∃ o2, o2 = o1.set j r1 := ⟨_, rfl⟩
            rw [← ho2] at HO2 Hol2
            have hc1 := row_cell HO2.out Hol2.out (show x.toNat < n by omega)
            have hf1 := HO2.out.frozenAt x.toNat
            obtain ⟨b0, b1, b2⟩ := HK2.out
            obtain ⟨v1, hv1⟩ : ∃ v1, v1 = o2.getD x.toNat 0 := ⟨_, rfl⟩
            rw [← hv1] at hc1
            have HV1 := Lib.hid hv1
            clear hv1
            obtain ⟨f1, m1, p1, s1⟩ := run_fopS (P := Try.prog) arith_add 23 .f32 v1 r0
            have HS2 := Lib.hid s1
            clear s1
            go_upto_region 15 with fail
            go_cut [] (fun wx => ∃ r1 : Nat, Sim .f32 r1 (fop .add .f32 v1 r0) ∧ wx.ownsRow W0.heap.size 23 1 (.slice (some ⟨g, 0, none⟩) n cp) n ((o2.set x.toNat r1).map (Value.float .f32)) ∧ wd1.grownBy wx (some g))
            case first =>
              go_region_law (fail)
              all_goals
                go_wp2_with fail
                go_meet
                case rel => exact ⟨_, HS2.out _, setF HO2.out (by first | exact ⟨_, rfl⟩ | (simp only [World.drew_is_drewN, World.drewN_drewN]; exact ⟨_, rfl⟩))⟩
            case rest =>
            obtain ⟨r2, hr2, hO3, hg3⟩ := hcut
            obtain ⟨we, hwe⟩ : ∃ x : World, x = wc := ⟨_, rfl⟩
            subst hwe
            have HR2 : Hid (Sim .f32 r2 (fop .add .f32 ((o1.set j r1).getD x.toNat 0) r0)) := Lib.hid (by rw [← ho2, ← HV1.out]; exact hr2)
            have HO3 := Lib.hid hO3
            have HU3 := Lib.hid (own_kept (B' := 0) HU2.out hg3 (by omega) rfl)
            have HB3 := Lib.hid (HB2.out.grown hg3 HB2.out.size (fun k hk => by injection hk; omega))
            have HK3 := Lib.hid (HK2.out.grown hg3 (by omega) (by intro h; injection h; omega))
            have hz3 := hg3.size
            have Hol3 : Hid ((o2.set x.toNat r2).length = n) := Lib.hid (by rw [List.length_set]; exact Hol2.out)
            have HMV : Hid (SimL (o2.set x.toNat r2) (moved st.1 j x (fop .mul .f32 h d))) := Lib.hid (by rw [ho2]; exact moved_sim HSS.out.1 H0.out HR1.out HR2.out)
            clear hr2 hO3 hg3 hc1 hf1 b0 b1 b2 HV1 p1 HS2
            go_wp2_with (first | (refine wpList_fop rfl .add 23 (.tmp 94) (.tmp 95) 23 rfl arith_add .f32 _ _ rfl rfl ?_; intro r3 m3 h3))
            have HR3 : Hid (Sim .f32 r3 (fop .add .f32 st.2 (fop .mul .f32 h d))) := Lib.hid (h3.trans (fop_sim arith_add HSS.out.2 H0.out))
            clear h3
            go_roundw
            case rel => exact ⟨p + 1, o2.set x.toNat r2, r3, by omega, by go_num, rfl, Hol3.out, Lib.hid (by rw [hST.out, HST2.out]; exact ⟨HMV.out, HR3.out⟩), own_drw HO3.out ⟨_, rfl⟩, HK3.out, own_drw HU3.out ⟨_, rfl⟩, below_drw HB3.out ⟨_, rfl⟩, by show w6.heap.size ≤ we.heap.size; omega⟩
            case measure => simp [intOf]; omega
        · have hpe : p = l.length := by omega
          have HSE : Hid (SimS (o1, z1) (talusK wd hg xs t h (j + 1))) := Lib.hid (by have hh := HS1.out; rw [hpe, List.take_of_length_le (Nat.le_refl _)] at hh; show SimS (o1, z1) (slides xs t h j (nb wd hg j) (talusK wd hg xs t h j)); rw [← HL.out]; exact hh)
          clear hpe
          go_wp2
          go_roundw
          case rel => exact ⟨j + 1, o1, z1, by omega, by go_num, rfl, Hol1.out, HSE, HO1.out, HK1.out, HB1.out, by omega⟩
          case measure => simp [intOf]; omega
    · have hjn : j = n := by omega
      have HSE : Hid (SimS (o, z) (talE wd hg xs t h)) := Lib.hid (by have hh := HS.out; rw [hjn, ← Hn.out] at hh; exact hh)
      have HTE := Lib.hid (tal_end hA.out HSE.out)
      have RO := Lib.hid (Rd.own HO.out)
      clear hjn k0 k1 k2
      have CV := validSheet_any wd hg (some ⟨g, 0, none⟩) n cp o wo Hol.out (by omega) RO.out
      cases hvs : vS wd hg o
      · have HTN := Lib.hid (HTE.out.1 hvs)
        rw [hvs] at CV
        clear hvs
        have HC7 := Lib.hid CV
        clear CV
        obtain ⟨b0, b1, b2⟩ := HK.out
        go_wp2_with fail
        refine HC7.out.mono ?_
        rintro e w7 ⟨rfl, hb7⟩
        have B7 := Lib.hid hb7
        clear hb7
        have z7 := B7.out.size
        clear b0 b1 b2 HC7
        have BZ := Lib.hid (HB.out.trans (B7.out.mono HB.out.size))
        obtain ⟨⟨x0, x1, x2⟩, y0, y1, y2⟩ := X0.out.below BZ.out hz0'
        go_wp2
        refine bodyPost_ret (v := .tuple #[.agg #[.int .i64 0, .int .i64 0, .slice none 0 0], .float .f32 0, .bool false]) (by simp [results, Try.results27, go_sem, x0, x1, x2]) rfl ⟨gives_none HTN.out ⟨none, 0, rfl, World.ownsRow_nil _ _ _ _⟩, ?_⟩
        exact ((((B0.out.trans (BZ.out.mono B0.out.size)).setCell (by simp) _).setCell (by simp) _).setCell (by simp) _)
      · rw [hvs] at CV
        cases hfz : finB z
        · have HTN := Lib.hid (HTE.out.2.1 hfz)
          have C8 := fun W => isFinite_any z W
          rw [hfz] at C8
          have H8 := Lib.hid C8
          clear hvs hfz C8
          have HC7 := Lib.hid CV
          clear CV
          obtain ⟨b0, b1, b2⟩ := HK.out
          go_wp2_with fail
          refine HC7.out.mono ?_
          rintro e w7 ⟨rfl, hb7⟩
          have B7 := Lib.hid hb7
          clear hb7
          have z7 := B7.out.size
          clear b0 b1 b2 HC7
          go_wp2_with fail
          refine (H8.out _).mono ?_
          rintro e w8 ⟨rfl, m8, hw8⟩
          have B8 : Hid (Below wo.heap.size wo w8) := Lib.hid (by rw [hw8]; exact below_drewN B7.out _)
          clear hw8
          have BZ := Lib.hid (HB.out.trans (B8.out.mono HB.out.size))
          obtain ⟨⟨x0, x1, x2⟩, y0, y1, y2⟩ := X0.out.below BZ.out hz0'
          go_wp2
          refine bodyPost_ret (v := .tuple #[.agg #[.int .i64 0, .int .i64 0, .slice none 0 0], .float .f32 0, .bool false]) (by simp [results, Try.results27, go_sem, x0, x1, x2]) rfl ⟨gives_none HTN.out ⟨none, 0, rfl, World.ownsRow_nil _ _ _ _⟩, ?_⟩
          exact ((((B0.out.trans (BZ.out.mono B0.out.size)).setCell (by simp) _).setCell (by simp) _).setCell (by simp) _)
        · have HTY := Lib.hid (HTE.out.2.2 hvs hfz)
          have C8 := fun W => isFinite_any z W
          rw [hfz] at C8
          have H8 := Lib.hid C8
          clear hvs hfz C8
          have HC7 := Lib.hid CV
          clear CV
          obtain ⟨b0, b1, b2⟩ := HK.out
          go_wp2_with fail
          refine HC7.out.mono ?_
          rintro e w7 ⟨rfl, hb7⟩
          have B7 := Lib.hid hb7
          clear hb7
          have z7 := B7.out.size
          clear b0 b1 b2 HC7
          go_wp2_with fail
          refine (H8.out _).mono ?_
          rintro e w8 ⟨rfl, m8, hw8⟩
          have B8 : Hid (Below wo.heap.size wo w8) := Lib.hid (by rw [hw8]; exact below_drewN B7.out _)
          clear hw8
          have z8 := B8.out.size
          have OZ := Lib.hid (own_next HO.out B8.out)
          obtain ⟨b0, b1, b2⟩ := HK.out.below B8.out (by omega)
          have BZ := Lib.hid (HB.out.trans (B8.out.mono HB.out.size))
          obtain ⟨⟨x0, x1, x2⟩, y0, y1, y2⟩ := X0.out.below BZ.out hz0'
          go_wp2
          refine bodyPost_ret (v := .tuple #[.agg #[.int .i64 wd, .int .i64 hg, (.slice (some ⟨g, 0, none⟩) n cp)], .float .f32 z, .bool true]) (by simp [results, Try.results27, go_sem, x0, x1, x2]) rfl ⟨gives_some HTY.out ⟨some ⟨g, 0, none⟩, cp, by rw [Hol.out], ?_⟩, ?_⟩
          · rw [Hol.out]
            exact own_set (own_set (own_set (own_base OZ.out B0.out.size) (by rintro a ⟨⟩; simp; omega) _) (by rintro a ⟨⟩; simp; omega) _) (by rintro a ⟨⟩; simp; omega) _
          · exact ((((B0.out.trans (BZ.out.mono B0.out.size)).setCell (by simp) _).setCell (by simp) _).setCell (by simp) _)
end Go.Proofs.Ytcpimcjmckljfaa
