/- GapsOf, the program's way. -/
import Derived.Test.YtbojlgbkkdnegaaRa
namespace Go.Proofs.Ytbojlgbkkdnegaa
open Ieee Go.RowKit
set_option maxHeartbeats 4000000 in
set_option maxRecDepth 100000 in
theorem gapsOf_any (ad : Addr) (n c : Nat) (xs : List Nat) (w : World) (hn : xs.length = n) (hm : n ≤ 1048576) (hr : Rd w w.heap.size (some ad) (xs.map (Value.float .f32))) :
    Calls Try.prog 24 #[.slice (some ad) n c] w fun e w' => GivesF w.heap.size (gapsR xs) (gapsOk xs) e w' ∧ Below w.heap.size w w' := by
  have cl := isList_any (some ad) n c xs w hn hm hr
  cases hl : listB xs
  · rw [hl] at cl
    have HC := Lib.hid cl
    have HR : Hid (gapsR xs = [] ∧ gapsOk xs = false) := Lib.hid (by unfold gapsR gapsOk; rw [hl]; exact ⟨rfl, rfl⟩)
    clear cl hl hr hn
    go_enter Try.func24, Try.ntmps24
    go_wp2_with fail
    refine HC.out.mono ?_
    rintro e w1 ⟨rfl, hb⟩
    have HB := Lib.hid hb; clear hb
    go_wp2
    go_ret2
    rw [HR.out.1, HR.out.2]
    exact ⟨⟨none, 0, rfl, ⟨rfl, .inl ⟨rfl, rfl⟩⟩⟩, HB.out⟩
  · obtain ⟨hn256, hfin⟩ := listB_len hl
    rw [hn] at hn256
    rw [hl] at cl
    have HC := Lib.hid cl
    obtain ⟨i0, hi, hz0, hz1, hz2⟩ := info_parts Try.info25
    have HR : Hid (gapsOk xs = finL (gapsN (srtA xs))) := Lib.hid (by unfold gapsOk; rw [hl]; rfl)
    have HCL := Lib.hid (fun (W : World) (hb : Below w.heap.size w W) => cloneF_any ad n c xs W hn hm (hr.next hb))
    have HSO := Lib.hid (fun (W : World) (B g cap : Nat) ho => sortUp_any (w := W) (B := B) (g := g) (cap := cap) hn hm hfin ho)
    have HF := Lib.hid (srt_fin hfin)
    clear cl hl hr hn hfin
    go_enter Try.func24, Try.ntmps24
    go_wp2_with fail
    refine HC.out.mono ?_
    rintro e w1 ⟨rfl, hb⟩
    have B1 := Lib.hid hb
    clear hb
    go_wp2_with fail
    refine (HCL.out w1 B1.out).mono ?_
    rintro e w2 ⟨⟨g, cp, rfl, ho⟩, hb⟩
    have B2 := Lib.hid (bthen B1.out hb)
    have B12 := Lib.hid hb
    have HO2 := Lib.hid (HSO.out w2 _ g cp ho)
    have hz12 := B1.out.size
    clear ho hb
    go_wp2_with fail
    refine HO2.out.mono ?_
    rintro e w3 ⟨rfl, ho, hsl, hb⟩
    have B3 := Lib.hid (B2.out.trans (hb.mono hz12))
    have HRS := Lib.hid (Rd.own ho)
    have HSL := Lib.hid hsl
    obtain ⟨sl, hsl2⟩ : ∃ sl, sl = srtA xs := ⟨_, rfl⟩
    rw [← hsl2] at HRS HSL HF HR
    have HGR : Hid (gapsR xs = if gapsOk xs = true then gapsN sl else []) := Lib.hid (by unfold gapsR; rw [hsl2])
    have hz3 := B3.out.size
    have HN1 := Lib.hid (own_nilF w3 25 w3.heap.size (Nat.le_refl _))
    have HB0 := Lib.hid (below_new w3 (.cells #[] 25))
    clear ho hsl hb hsl2
    go_wp2_with fail
    go_loopw [5, 18] (fun v i wr => ∃ (k : Nat) (ls : List Nat), k ≤ n ∧ i = .int .i64 k ∧ ls.length + 1 ≤ 257 ∧ Hid (ls = (List.range (k - 1)).map (fun i => fop .sub .f32 (sl.getD (i + 1) 0) (sl.getD i 0))) ∧ wr.ownsRow w3.heap.size 25 1 v ls.length (ls.map (Value.float .f32)) ∧ Below w3.heap.size w3 wr) (fun _ i _ => n - (intOf i).toNat)
    case atStart => exact ⟨0, [], Nat.zero_le _, rfl, by decide, Lib.hid rfl, HN1.out, HB0.out⟩
    case round =>
      obtain ⟨k, ls, hk, rfl, hll, HL, hv, hb⟩ := hrel
      have HV := Lib.hid hv
      have HB := Lib.hid hb
      have hwz := HB.out.size
      clear hv hb
      obtain ⟨Av, cv, rfl, hrv⟩ := shapeOf HV.out
      by_cases hlt : k < n
      · have hkz : (k : Int) < (n : Int) := by omega
        have hka : k < sl.length := by rw [HSL.out]; exact hlt
        obtain ⟨ad2, had2, _, hck⟩ := ((HRS.out.below HB.out).more hwz).at_ (k := k) (by rw [List.length_map]; exact hka)
        rw [List.getElem_map] at hck
        by_cases hk0 : 0 < k
        · obtain ⟨kp, zk, hkp⟩ : ∃ kp : Nat, (k : Int) = (kp : Int) + 1 ∧ kp + 1 = k := ⟨k - 1, by omega, by omega⟩
          have HKP := Lib.hid hkp
          have hkpl : kp < sl.length := by omega
          obtain ⟨ad3, had3, _, hcp⟩ := ((HRS.out.below HB.out).more hwz).at_ (k := kp) (by rw [List.length_map]; exact hkpl)
          rw [List.getElem_map] at hcp
          cases had2
          cases had3
          have HST : Hid ((List.range (k + 1 - 1)).map (fun i => fop .sub .f32 (sl.getD (i + 1) 0) (sl.getD i 0)) = (List.range (k - 1)).map (fun i => fop .sub .f32 (sl.getD (i + 1) 0) (sl.getD i 0)) ++ [fop .sub .f32 sl[k] sl[kp]]) := Lib.hid (by
            have h := gap_step (sl := sl) (k := kp) (by omega)
            subst hkp
            exact h)
          have hfx := HF.out _ (List.getElem_mem hka)
          have hfy := HF.out _ (List.getElem_mem hkpl)
          obtain ⟨x, hx⟩ : ∃ x, x = sl[k] := ⟨_, rfl⟩
          obtain ⟨y, hy⟩ : ∃ y, y = sl[kp] := ⟨_, rfl⟩
          rw [← hx] at hck HST hfx
          rw [← hy] at hcp HST hfy
          have p1 := run_num (P := Try.prog) (sub_num hfx (fin_num hfy)).1
          obtain ⟨d, hd⟩ : ∃ d, d = fop .sub .f32 x y := ⟨_, rfl⟩
          rw [← hd] at p1 HST
          obtain ⟨i1, hi1⟩ : ∃ q, q = kp + 1 := ⟨_, rfl⟩
          have hck2 : wr.cell? ⟨g, i1, none⟩ = some (.float .f32 x) := by
            rw [hi1, hkp]
            have e : (⟨g, 0, none⟩ : Addr).add k = ⟨g, k, none⟩ := add_zero_off g k
            rwa [e] at hck
          have hcp2 : wr.cell? ⟨g, kp, none⟩ = some (.float .f32 y) := by
            have e : (⟨g, 0, none⟩ : Addr).add kp = ⟨g, kp, none⟩ := add_zero_off g kp
            rwa [e] at hcp
          have ea1 : ((kp : Int) + 1).toNat = i1 := by omega
          have pa1 : (0 : Int) ≤ (kp : Int) + 1 := by omega
          have ba1 : (kp : Int) + 1 < (n : Int) := by omega
          have ba2 : (kp : Int) < (n : Int) := by omega
          have ra1 : IntKind.i64.wrap ((kp : Int) + 1) = (kp : Int) + 1 := by rw [IntKind.wrap_i64]; omega
          have ra2 : IntKind.i64.wrap ((kp : Int)) = (kp : Int) := by rw [IntKind.wrap_i64]; omega
          have hkz2 : (kp : Int) + 1 < (n : Int) := ba1
          have hpos : (0 : Int) < (kp : Int) + 1 := by omega
          clear hx hy hd hi1 hrv hck hcp hkp
          go_wp2_with (at_builtin; go_must (refine wpList_append_own_at _ rfl (.tmp 25) (.tmp 33) 26 rfl w3.heap.size 25 i0 (.float .f32 0) 1 4 Try.underlying26 hi hz0 hz1 hz2 rfl (by decide) _ _ _ rfl (HV.out.alloc _) ⟨wr.heap.size, 0, none⟩ 1 1 [.float .f32 d] rfl rfl (newOne wr _ 25) (oneF _ _) ?_ ?_ ?_ ?_))
          · unfold maxLen; omega
          · omega
          · first | omega | (simp; omega)
          intro v' w7 hown' hgrow _ hat'
          have HV7 := Lib.hid (own_appF hown')
          have HB7 := Lib.hid ((HB.out.alloc hwz (.cells #[.float .f32 d] 25)).grown hgrow (by simp; omega) (fun q hq => (HV.out.lt q hq).1))
          have HLN : Hid (ls.length = k - 1) := Lib.hid (by rw [HL.out]; simp)
          clear hown' hgrow hat' p1
          go_wp2
          go_roundw
          case rel =>
            have h1 := HKP.out
            have h2 := HLN.out
            exact ⟨k + 1, ls ++ [d], by omega, by first | go_num | (congr 1; omega), by rw [List.length_append]; simp; omega, Lib.hid (by rw [HST.out, HL.out]), HV7.out, HB7.out⟩
          case measure => have h1 := HKP.out; simp [intOf]; omega
        · obtain rfl : k = 0 := by omega
          cases had2
          have hck2 : wr.cell? ⟨g, 0, none⟩ = some (.float .f32 sl[0]) := hck
          clear hrv hck
          go_wp2
          go_roundw
          case rel => exact ⟨1, ls, by omega, by go_num, hll, Lib.hid HL.out, HV.out, HB.out⟩
          case measure => simp [intOf]; omega
      · obtain rfl : n = k := by omega
        have HG : Hid (gapsN sl = ls) := Lib.hid (by rw [HL.out]; unfold gapsN; rw [HSL.out])
        have HFN := Lib.hid (areFinite_any Av ls.length cv ls wr rfl (by omega) hrv)
        have cf := HFN.out
        cases hfl : finL ls
        · rw [hfl] at cf
          have HCF := Lib.hid cf
          have HR2 : Hid (gapsR xs = [] ∧ gapsOk xs = false) := Lib.hid (by
            have h : gapsOk xs = false := by rw [HR.out, HG.out]; exact hfl
            rw [HGR.out, h]
            exact ⟨rfl, rfl⟩)
          clear cf hfl hrv HFN
          go_wp2_with fail
          refine HCF.out.mono ?_
          rintro e w9 ⟨rfl, hb⟩
          have B9 := Lib.hid (bthen HB.out hb)
          clear hb
          go_wp2
          go_ret2
          rw [HR2.out.1, HR2.out.2]
          exact ⟨⟨none, 0, rfl, ⟨rfl, .inl ⟨rfl, rfl⟩⟩⟩, bthen B3.out B9.out⟩
        · rw [hfl] at cf
          have HCF := Lib.hid cf
          have HR2 : Hid (gapsR xs = ls ∧ gapsOk xs = true) := Lib.hid (by
            have h : gapsOk xs = true := by rw [HR.out, HG.out]; exact hfl
            rw [HGR.out, h]
            exact ⟨HG.out, rfl⟩)
          clear cf hfl hrv HFN
          go_wp2_with fail
          refine HCF.out.mono ?_
          rintro e w9 ⟨rfl, hb⟩
          have B9 := Lib.hid (bthen HB.out hb)
          have HV9 := Lib.hid (own_base (own_next HV.out hb) hz3)
          clear hb
          go_wp2
          go_ret2
          rw [HR2.out.1, HR2.out.2]
          exact ⟨⟨_, _, rfl, HV9.out⟩, bthen B3.out B9.out⟩
end Go.Proofs.Ytbojlgbkkdnegaa
