/- TailSlope, the reference's way. -/
import Derived.Test.YtcpimcjmckljfaaTailI
namespace Go.Proofs.Ytcpimcjmckljfaa
open Ieee Go.RowKit
theorem getD_at {xs : List Nat} {k : Nat} (h : k < xs.length) : xs[k] = xs.getD k 0 := by rw [List.getD_eq_getElem?_getD, List.getElem?_eq_getElem h]; rfl
set_option maxHeartbeats 8000000 in
set_option maxRecDepth 100000 in
theorem specTail_any (A : Option Addr) (n c : Nat) (xs : List Nat) (z : Int) (w : World) (hn : xs.length = n) (hm : n ≤ 1048576) (hr : Rd w w.heap.size A (xs.map (Value.float .f32))) (hz : -9223372036854775808 ≤ z ∧ z ≤ 9223372036854775807) :
    Calls Try.prog 43 #[.slice A n c, .int .i64 z] w fun e w' => e = .returned (.tuple #[.float .f32 (tailR xs z), .bool (tailB xs z)]) ∧ Below w.heap.size w w' := by
  have c1 := l06List_any A n c xs w hn hm hr
  cases hl : listB xs
  · rw [hl] at c1
    have HO := Lib.hid (tail_no' (xs := xs) (z := z) (by unfold tailIn; rw [hl]; rfl))
    have HC1 := Lib.hid c1
    clear c1 hl hr hn
    go_enter Try.func43, Try.ntmps43
    go_wp2_with fail
    refine HC1.out.mono ?_
    rintro e w1 ⟨rfl, m1, rfl⟩
    go_wp2
    go_ret2
    rw [HO.out.1, HO.out.2]
    exact ⟨rfl, below_drewN (Below.refl _ _) _⟩
  · rw [hl] at c1
    have c2 := fun W => l00In_any z 1 ((n : Int) - 1) W
    have HC1 := Lib.hid c1
    cases hi : inB z 1 ((n : Int) - 1)
    · rw [hi] at c2
      have HO := Lib.hid (tail_no' (xs := xs) (z := z) (by unfold tailIn; rw [hn, hi]; simp))
      have HC2 := Lib.hid c2
      clear c1 c2 hl hr hn hi
      go_enter Try.func43, Try.ntmps43
      go_wp2_with fail
      refine HC1.out.mono ?_
      rintro e w1 ⟨rfl, m1, rfl⟩
      go_wp2_with fail
      refine (HC2.out _).mono ?_
      rintro e w' ⟨rfl, rfl⟩
      go_wp2
      go_ret2
      rw [HO.out.1, HO.out.2]
      exact ⟨rfl, below_drewN (Below.refl _ _) _⟩
    · rw [hi] at c2
      have HC2 := Lib.hid c2
      obtain ⟨hlo, hhi⟩ : 1 ≤ z ∧ z ≤ (n : Int) - 1 := by simpa [inB] using hi
      obtain ⟨cnt, rfl⟩ : ∃ cnt : Nat, z = (cnt : Int) := ⟨z.toNat, by omega⟩
      have hc1 : 1 ≤ cnt := by omega
      have hcn : cnt < n := by omega
      obtain ⟨hn256, hfin⟩ := listB_len hl
      rw [hn] at hn256
      have HIN1 : Hid (tailIn xs (cnt : Int) = !(xs.any fun x => !gtB x)) := Lib.hid (by unfold tailIn; rw [hl, hn, hi]; rfl)
      have HFI := Lib.hid hfin
      have Hn := Lib.hid hn
      have Hr := Lib.hid hr
      have HRK := Lib.hid (fun (W : World) (hb : Below w.heap.size w W) => l06Rank_any A n c xs W hfin hn (by omega) (hr.next hb))
      have hcv := fun (n : Int) (w : World) => run_convert_int_float (P := Try.prog) w 2 23 .i64 .f32 n (by rw [Try.underlying2]; rfl) Try.underlying23
      clear c1 c2 hl hr hn hi hlo hhi hfin
      go_enter Try.func43, Try.ntmps43
      go_wp2_with fail
      refine HC1.out.mono ?_
      rintro e w1 ⟨rfl, hq⟩
      have B1 := Lib.hid (below_drw (Below.refl w.heap.size w) hq)
      clear hq
      go_wp2_with fail
      refine (HC2.out _).mono ?_
      rintro e w' ⟨rfl, rfl⟩
      have HR1 := Lib.hid (Hr.out.next B1.out)
      go_wp2_with fail
      go_loopw [6] (fun i wr => ∃ k : Nat, k ≤ n ∧ i = .int .i64 k ∧ Hid ((xs.take k).any (fun x => !gtB x) = false) ∧ ∃ m, wr = w1.drewN m) (fun i _ => n - (intOf i).toNat)
      case atStart => exact ⟨0, Nat.zero_le _, rfl, Lib.hid rfl, 0, rfl⟩
      case round =>
        obtain ⟨k, hk, rfl, HA, hq⟩ := hrel
        have HQ := Lib.hid hq
        by_cases hlt : k < n
        · have hka : k < xs.length := by rw [Hn.out]; exact hlt
          obtain ⟨ad, rfl, _, hck⟩ := HR1.out.at_ (k := k) (by rw [List.length_map]; exact hka)
          rw [List.getElem_map] at hck
          have HS : Hid ((!gtB xs[k]) = false → (xs.take (k + 1)).any (fun x => !gtB x) = false) := Lib.hid (any_step hka HA.out)
          have HT : Hid ((!gtB xs[k]) = true → xs.any (fun x => !gtB x) = true) := Lib.hid (any_found (p := fun x => !gtB x) hka)
          obtain ⟨x, hx⟩ : ∃ x, x = xs[k] := ⟨_, rfl⟩
          rw [← hx] at hck HS HT
          have e1 := cell_drw hq hck
          have BR := Lib.hid (below_drw B1.out hq)
          clear hx hck hq
          cases hg : gtB x
          · have ho : (FloatKind.f32.format.order x 0 == some .gt) = false := hg
            have HO := Lib.hid (tail_no' (xs := xs) (z := (cnt : Int)) (by rw [HIN1.out, HT.out (by rw [hg]; rfl)]; rfl))
            clear hg
            go_wp2
            go_ret2
            rw [HO.out.1, HO.out.2]
            exact ⟨rfl, BR.out⟩
          · have ho : (FloatKind.f32.format.order x 0 == some .gt) = true := hg
            have HS2 := Lib.hid (HS.out (by rw [hg]; rfl))
            clear hg
            go_wp2
            go_roundw
            case rel => exact ⟨k + 1, by omega, by go_num, HS2, HQ.out⟩
            case measure => simp [intOf]; omega
        · obtain rfl : n = k := by omega
          have HP : Hid (xs.any (fun x => !gtB x) = false) := Lib.hid (any_none (show xs.length ≤ n by rw [Hn.out]; omega) HA.out)
          have HIN : Hid (tailOk xs (cnt : Int) = gtB (tailS (srtD xs) cnt cnt)) := Lib.hid (by unfold tailOk; rw [HIN1.out, HP.out]; rfl)
          have HTC : Hid (tailC (srtD xs) (cnt : Int) = fop .quo .f32 (floatOfInt .f32 (cnt : Int)) (tailS (srtD xs) cnt cnt)) := Lib.hid rfl
          have HTQ := Lib.hid (fun (i : Nat) (h : i ≤ cnt) => tail_q HFI.out HP.out h (by rw [Hn.out]; exact hcn))
          have HTL := Lib.hid (fun (i : Nat) (h : i ≤ cnt) => tail_log HFI.out HP.out h (by rw [Hn.out]; exact hcn))
          have HGT := Lib.hid (fun (i : Nat) (h : i < n) => srtD_get (xs := xs) (i := i) (by rw [Hn.out]; exact h))
          have B2 := Lib.hid (below_drw B1.out hq)
          have HRA := Lib.hid (HRK.out wr B2.out)
          have hz2 := B2.out.size
          have HRX := Lib.hid (rd_drw HR1.out hq)
          have HSZ := Lib.hid (size_drw hq)
          clear hq
          go_wp2_with fail
          refine HRA.out.mono ?_
          rintro e w4 ⟨⟨Ar, cr, rfl, ho⟩, hb⟩
          have B4 := Lib.hid (B2.out.trans (hb.mono hz2))
          have HRR := Lib.hid (Rd.own ho)
          have HRL := Lib.hid (show Rd w4 w4.heap.size A (xs.map (Value.float .f32)) from ((HRX.out.more (Nat.le_of_eq HSZ.out.symm)).next hb))
          clear ho hb
          go_wp2_with fail
          go_loopw [8, 9] (fun s i wr => ∃ (k sm : Nat), k ≤ cnt ∧ i = .int .i64 k ∧ s = .float .f32 sm ∧ Hid (sm = tailS (srtD xs) cnt k ∧ SV k sm) ∧ ∃ m, wr = w4.drewN m) (fun _ i _ => cnt - (intOf i).toNat)
          case atStart => exact ⟨0, 0, Nat.zero_le _, rfl, rfl, Lib.hid ⟨rfl, .inl ⟨false, 0, -149, by decide, Int.le_refl _, by simp⟩⟩, 0, rfl⟩
          case round =>
            obtain ⟨k, sm, hk, rfl, rfl, HSM, hq⟩ := hrel
            have HQ := Lib.hid hq
            by_cases hlt : k < cnt
            · have hkz : (k : Int) < (cnt : Int) := by omega
              obtain ⟨ja, hja, hja2, hja3⟩ := HGT.out k (by omega)
              obtain ⟨jb, hjb, hjb2, hjb3⟩ := HGT.out cnt hcn
              rw [Hn.out] at hja hjb
              obtain ⟨ia, ea⟩ := List.getElem?_eq_some_iff.1 hja2
              obtain ⟨ib, eb⟩ := List.getElem?_eq_some_iff.1 hjb2
              obtain ⟨adr, rfl, _, hra⟩ := HRR.out.at_ (k := k) (by rw [List.length_map]; exact ia)
              obtain ⟨adr2, hadr, _, hrb⟩ := HRR.out.at_ (k := cnt) (by rw [List.length_map]; exact ib)
              cases hadr
              rw [List.getElem_map, ea] at hra
              rw [List.getElem_map, eb] at hrb
              obtain ⟨adx, rfl, _, hxa⟩ := HRL.out.at_ (k := ja) (by rw [List.length_map, Hn.out]; exact hja)
              obtain ⟨adx2, hadx, _, hxb⟩ := HRL.out.at_ (k := jb) (by rw [List.length_map, Hn.out]; exact hjb)
              cases hadx
              rw [List.getElem_map, getD_at (by rw [Hn.out]; exact hja), ← hja3] at hxa
              rw [List.getElem_map, getD_at (by rw [Hn.out]; exact hjb), ← hjb3] at hxb
              have hq1 := HTQ.out k (by omega)
              have p1 := run_num (P := Try.prog) hq1.1
              have e1 := cell_drw hq hra
              have e2 := cell_drw hq hrb
              have e3 := cell_drw hq hxa
              have e4 := cell_drw hq hxb
              have hsv := sv_add HSM.out.2 (HTL.out k (by omega)) (by omega)
              have hln := (HTL.out k (by omega)).num
              have HLG := Lib.hid (fun W => (l01Log_all (tailQ (srtD xs) cnt k) (tailQ (srtD xs) cnt k) W (good_quo _ _) (.refl _ _)).mono fun e w' (h : (∃ r, e = Ending.returned (.float .f32 r) ∧ Sim .f32 r (logX (tailQ (srtD xs) cnt k))) ∧ ∃ m, w' = World.drewN W m) => (show e = Ending.returned (.float .f32 (logX (tailQ (srtD xs) cnt k))) ∧ ∃ m, w' = World.drewN W m from by
                obtain ⟨⟨r, h1, h2⟩, h3⟩ := h
                rw [h2.eq hln] at h1
                exact ⟨h1, h3⟩))
              have p2 := run_num (P := Try.prog) hsv.1
              have HUP : Hid (fop .add .f32 sm (logX (tailQ (srtD xs) cnt k)) = tailS (srtD xs) cnt (k + 1)) := Lib.hid (by rw [tailS_up, HSM.out.1])
              have HSV := Lib.hid hsv.2
              obtain ⟨x, hx⟩ : ∃ x, x = (srtD xs).getD k 0 := ⟨_, rfl⟩
              obtain ⟨y, hy⟩ : ∃ y, y = (srtD xs).getD cnt 0 := ⟨_, rfl⟩
              obtain ⟨q, hqq⟩ : ∃ q, q = tailQ (srtD xs) cnt k := ⟨_, rfl⟩
              rw [← hx] at e3 p1
              rw [← hy] at e4 p1
              rw [← hqq] at p1 p2 HLG HUP HSV
              obtain ⟨lg, hlg⟩ : ∃ lg, lg = logX q := ⟨_, rfl⟩
              rw [← hlg] at p2 HLG HUP HSV
              obtain ⟨s2, hs2⟩ : ∃ s2, s2 = fop .add .f32 sm lg := ⟨_, rfl⟩
              rw [← hs2] at p2 HUP HSV
              clear hx hy hqq hlg hs2 hra hrb hxa hxb hq hq1 hsv hln ea eb ia ib hja2 hja3 hjb2 hjb3
              go_wp2_with fail
              go_quiet ((go_at_call 53; exact Calls.quiet_of (HLG.out _)))
              have HQ2 := Lib.hid (drw_trans HQ.out ⟨nq, rfl⟩)
              clear e1 e2 e3 e4 p1 p2
              go_wp2
              go_roundw
              case rel => exact ⟨k + 1, s2, by omega, by go_num, rfl, Lib.hid ⟨HUP.out, HSV.out⟩, HQ2.out⟩
              case measure => simp [intOf]; omega
            · obtain rfl : cnt = k := by omega
              have BR := Lib.hid (below_drw B4.out hq)
              have hs1 := HSM.out.1
              clear hq
              cases hg : gtB (tailS (srtD xs) cnt cnt)
              · have ho : (FloatKind.f32.format.order sm 0 == some .gt) = false := by rw [hs1]; exact hg
                have HO := Lib.hid (tail_no (xs := xs) (z := (cnt : Int)) (HIN.out.trans hg))
                clear hs1 hg
                go_wp2
                go_ret2
                rw [HO.out.1, HO.out.2]
                exact ⟨rfl, BR.out⟩
              · have ho : (FloatKind.f32.format.order sm 0 == some .gt) = true := by rw [hs1]; exact hg
                have HO : Hid (tailR xs (cnt : Int) = numV (tailC (srtD xs) (cnt : Int)) ∧ tailB xs (cnt : Int) = finB (tailC (srtD xs) (cnt : Int))) := Lib.hid (by
                  have h := HIN.out.trans hg
                  unfold tailR tailB
                  rw [h]
                  exact ⟨rfl, rfl⟩)
                have HTC2 : Hid (tailC (srtD xs) (cnt : Int) = fop .quo .f32 (floatOfInt .f32 (cnt : Int)) sm) := Lib.hid (by rw [HTC.out, hs1])
                clear hs1 hg
                go_wp2_with (refine wpList_fopW rfl .quo 23 (.tmp 62) (.tmp 63) 23 rfl arith_quo .f32 _ _ rfl rfl ?_; intro r1 w5 h1 q1)
                have HI := Lib.hid (fun W => l02Number_any r1 (tailC (srtD xs) (cnt : Int)) W (by rw [HTC2.out]; exact h1))
                have B5 := Lib.hid (below_drw BR.out q1)
                clear h1 q1
                refine (HI.out _).mono ?_
                rintro e w' ⟨rfl, m9, rfl⟩
                rw [← HO.out.1, ← HO.out.2]
                go_wp2
                go_ret2
                exact ⟨rfl, below_drewN B5.out _⟩
end Go.Proofs.Ytcpimcjmckljfaa
