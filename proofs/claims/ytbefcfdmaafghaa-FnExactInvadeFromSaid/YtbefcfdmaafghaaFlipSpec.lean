/- FlipCells, the reference's way. -/
import Derived.Test.YtbefcfdmaafghaaFlip
namespace Go.Proofs.Ytbefcfdmaafghaa
open Go.RowKit
theorem own_drewN {w : World} {base : Nat} {e : TypeId} {size : Nat} {v : Value} {n : Nat} {xs : List Value} (h : w.ownsRow base e size v n xs) (q : Nat) : (w.drewN q).ownsRow base e size v n xs := h
theorem grown_drewN {w : World} {r : Option Nat} (q : Nat) : w.grownBy (w.drewN q) r := ⟨rfl, rfl, rfl, Nat.le_refl _, fun _ _ _ => rfl⟩
set_option maxHeartbeats 4000000 in
set_option maxRecDepth 100000 in
theorem specFlip_in (wd hg : Int) (A A' : Option Addr) (n c m c' : Nat) (bs : List Bool) (xs : List Int) (w : World) (hn : bs.length = n) (hm : xs.length = m) (hm1 : m ≤ 1048576) (hr : Rd w w.heap.size A (bs.map Value.bool)) (hr' : Rd w w.heap.size A' (xs.map (Value.int .i64)))
    (hv : vF wd hg n = true) :
    Calls Try.prog 54 #[.agg #[.int .i64 wd, .int .i64 hg, .slice A n c], .slice A' m c'] w fun e w' => GivesFB w.heap.size (pI (listOk n xs) wd) (pI (listOk n xs) hg) (pL (listOk n xs) (flips bs xs)) (listOk n xs) e w' ∧ Below w.heap.size w w' := by
  obtain ⟨⟨⟨h1, h2⟩, h3, h4⟩, h5⟩ := vF_iff.1 hv
  obtain ⟨q1, q2⟩ := prod_bd h1 h2 h3 h4
  have n0 : 0 < n := by omega
  have n1 : n ≤ 256 := by omega
  obtain ⟨W0, hW0⟩ : ∃ W0, W0 = (w.alloc (.cells #[.int .i64 wd, .int .i64 hg, .slice A n c] 27)).alloc (.cells #[.int .i64 0, .int .i64 0, .slice none 0 0] 27) := ⟨_, rfl⟩
  have B0 : Hid (Below w.heap.size w W0) := Lib.hid (by rw [hW0]; exact bthen (below_new w _) (below_new _ _))
  have z0 : W0.heap.size = w.heap.size + 2 := by rw [hW0]; simp
  have K0 : FBox W0 w.heap.size wd hg (.slice A n c) := by rw [hW0]; exact ⟨by simp [go_sem], by simp [go_sem], by simp [go_sem]⟩
  have X0 : Hid (Open3 W0 (w.heap.size + 1)) := Lib.hid (by rw [hW0]; simpa using Open3.new (w.alloc (.cells #[.int .i64 wd, .int .i64 hg, .slice A n c] 27)))
  have C76 := l07Is_any wd hg A n c w.heap.size W0 (by omega) K0
  have C97 := fun W hr hx => l07Own_any wd hg A n c w.heap.size bs W hn n0 (by omega) hr hx
  rw [hv] at C76
  have H76 := Lib.hid C76; have H97 := Lib.hid C97
  have Hr := Lib.hid hr; have Hr' := Lib.hid hr'; have Hn := Lib.hid hn; have Hm := Lib.hid hm
  clear C76 C97 hr hr' hn hm hv h5
  have R0 := Lib.hid ((Hr.out.below B0.out).more B0.out.size)
  have R0' := Lib.hid ((Hr'.out.below B0.out).more B0.out.size)
  have Z0 := Lib.hid z0
  have K0 := Lib.hid K0
  have hz0 : w.heap.size + 1 < W0.heap.size := by rw [Z0.out]; omega
  go_enter Try.func54, Try.ntmps54
  go_wp2_with fail
  rw [← hW0]
  clear hW0 z0
  obtain ⟨k0, k1, k2⟩ := K0.out
  refine H76.out.mono ?_
  rintro e w1 ⟨rfl, m1, rfl⟩
  have B1 := Lib.hid (below_drewN (Below.refl W0.heap.size W0) m1)
  go_wp2_with fail
  refine (H97.out _ ((R0.out.below B1.out).more B1.out.size) (K0.out.below B1.out (by omega)) (by show w.heap.size < W0.heap.size; omega)).mono ?_
  rintro e w4 ⟨hgf, hb4⟩
  obtain ⟨g, cp, rfl, ho4⟩ := hgf.parts
  have hg4 : W0.heap.size ≤ g := (ho4.lt g rfl).1
  have B4 := Lib.hid (bthen B1.out hb4)
  have hz4 : W0.heap.size ≤ w4.heap.size := hb4.size
  have hgz := (ho4.lt g rfl).2
  have O4 := Lib.hid (own_base (b' := W0.heap.size) ho4 (Nat.le_refl _))
  clear hgf ho4 hb4 B1 k0 k1 k2
  go_wp2_with fail
  obtain ⟨W5, hW5⟩ : ∃ W5, W5 = w4.alloc (.cells #[.int .i64 wd, .int .i64 hg, .slice (some ⟨g, 0, none⟩) bs.length cp] 27) := ⟨_, rfl⟩
  rw [← hW5]
  have hb5 : Below w4.heap.size w4 W5 := by rw [hW5]; exact below_new _ _
  have K5 : Hid (FBox W5 w4.heap.size wd hg (.slice (some ⟨g, 0, none⟩) bs.length cp)) := Lib.hid (by rw [hW5]; exact FBox.new _ _ _ _ _)
  have B5 := Lib.hid (bthen B4.out hb5)
  have O5 := Lib.hid (own_next O4.out hb5)
  have hz5 : w4.heap.size < W5.heap.size := by rw [hW5]; simp
  have X5 := Lib.hid (X0.out.below B5.out (by omega))
  have KB5 := Lib.hid (K0.out.below B5.out (by omega))
  have R5 := Lib.hid ((R0'.out.below B5.out).more B5.out.size)
  clear hW5 hb5 B4 O4
  go_loopw [7, 14] (fun _ i wr => ∃ k : Nat, k ≤ m ∧ i = .int .i64 k ∧ Hid (OkTo n xs k) ∧ wr.ownsRow W0.heap.size 4 1 (.slice (some ⟨g, 0, none⟩) bs.length cp) bs.length ((flips bs (xs.take k)).map Value.bool) ∧ W5.grownBy wr (some g)) (fun _ i _ => m - (intOf i).toNat)
  case atStart => exact ⟨0, Nat.zero_le _, rfl, Lib.hid (ok_zero n xs), O5.out, World.grownBy.refl _ _⟩
  case round =>
    obtain ⟨k, hk, rfl, HK, ho, hgr⟩ := hrel
    have HO := Lib.hid ho
    have HG := Lib.hid hgr
    have K6 := Lib.hid (K5.out.grown hgr hz5 (by intro h; injection h; omega))
    have KB6 := Lib.hid (KB5.out.grown hgr (by omega) (by intro h; injection h; omega))
    have X6 := Lib.hid (X5.out.grown hgr (by omega) (by intro h; injection h; omega))
    have R6 := Lib.hid ((R0'.out.below (B5.out.grown hgr B5.out.size (fun j hj => by injection hj; omega))).more (by have := hgr.size; have := B5.out.size; omega))
    clear ho hgr
    by_cases hlt : k < m
    · have hka : k < xs.length := by rw [Hm.out]; exact hlt
      obtain ⟨ad, rfl, _, hcell⟩ := R6.out.at_ (k := k) (by rw [List.length_map]; exact hka)
      rw [List.getElem_map] at hcell
      obtain ⟨j0, j1, j2⟩ := K6.out
      obtain ⟨i0, i1, i2⟩ := KB6.out
      have hwr : IntKind.i64.wrap ((n : Int) - 1) = (n : Int) - 1 := by rw [IntKind.wrap_i64]; omega
      by_cases hin : 0 ≤ xs[k] ∧ xs[k] < n
      · obtain ⟨p1, p2⟩ := hin
        have HS := Lib.hid (flips_snoc (bs := bs) hka)
        have CI := fun W => (l00In_any xs[k] 0 ((n : Int) - 1) W).mono (R' := fun e w' => e = .returned (.bool true) ∧ w' = W) fun _ _ h => ⟨h.1.trans (ret_bool (inB_t (by omega) (by omega))), h.2.symm⟩
        obtain ⟨fb, hfb⟩ : ∃ fb, fb = flips bs (xs.take k) := ⟨_, rfl⟩
        have hfl : fb.length = n := by rw [hfb, flips_len, Hn.out]
        rw [← hfb] at HO HS
        clear hfb
        have hxl : (xs[k]).toNat < fb.length := by omega
        have hc : wr.cell? ⟨g, (xs[k]).toNat, none⟩ = some (.bool fb[(xs[k]).toNat]) := by
          rw [HO.out.cellAt _ (by rw [Hn.out]; omega), List.getElem?_map, List.getElem?_eq_getElem hxl]; rfl
        have hf := HO.out.frozenAt (xs[k]).toNat
        have HT := Lib.hid (flip_stored (x := xs[k]) HO.out HG.out)
        rw [List.getElem?_eq_getElem hxl, Option.getD_some] at HT
        have p3 : xs[k] < (bs.length : Int) := by rw [Hn.out]; exact p2
        obtain ⟨y, hy⟩ : ∃ y, y = fb[(xs[k]).toNat]'hxl := ⟨_, rfl⟩
        rw [← hy] at hc HT
        clear hfl hxl hy
        have HOK : Hid ((0 < k → xs.getD (k - 1) 0 < xs[k]) → OkTo n xs (k + 1)) := Lib.hid (ok_step HK.out hka p1 p2)
        by_cases hk0 : k = 0
        · have HS2 : Hid (OkTo n xs (k + 1)) := Lib.hid (HOK.out (by omega))
          obtain ⟨x, hx⟩ : ∃ x, x = xs[k] := ⟨_, rfl⟩
          rw [← hx] at hcell CI HS hc hf HT p1 p2 p3
          have HCI := Lib.hid CI
          have hd : decide (0 < k) = false := by simp [hk0]
          have Hk0 := Lib.hid hk0
          clear hx CI HOK hk0
          go_wp2_with fail
          go_quiet ((go_at_call 98; exact Calls.quiet_of_same (HCI.out _)))
          obtain ⟨wq, hwq⟩ : ∃ wq, wq = wr.drewN nq := ⟨_, rfl⟩
          rw [← hwq]
          have hcq : wq.cell? (ad.add k) = some (.int .i64 x) := by rw [hwq]; exact hcell
          have hcg : wq.cell? ⟨g, x.toNat, none⟩ = some (.bool y) := by rw [hwq]; exact hc
          have hfq : wq.frozen? ⟨g, x.toNat, none⟩ = false := by rw [hwq]; exact hf
          have HTq : Hid ((wq.setCell ⟨g, x.toNat, none⟩ (.bool !y)).ownsRow W0.heap.size 4 1 (.slice (some ⟨g, 0, none⟩) bs.length cp) bs.length ((flip1 fb x).map Value.bool)) := Lib.hid (by rw [hwq]; exact HT.out.1)
          have HGq : Hid (W5.grownBy (wq.setCell ⟨g, x.toNat, none⟩ (.bool !y)) (some g)) := Lib.hid (by rw [hwq]; exact World.grownBy.trans' HT.out.2 ⟨rfl, rfl, rfl, Nat.le_refl _, fun _ _ _ => rfl⟩)
          obtain ⟨b0, b1, b2⟩ : FBox wq w4.heap.size wd hg (.slice (some ⟨g, 0, none⟩) bs.length cp) := by rw [hwq]; exact K6.out
          clear hwq HT hcell hc hf j0 j1 j2 i0 i1 i2
          go_wp2_with fail
          go_still_tail 16, (by kernel_rfl)
          change wpList _ _ _ _ _ wq.drew
          go_wp2
          go_roundw
          case rel => exact ⟨k + 1, by omega, by go_num, HS2, by rw [HS.out]; exact own_drew HTq.out, World.grownBy.trans' HGq.out grown_drew⟩
          case measure => simp [intOf]; omega
        · obtain ⟨ad', had', hab', hcell'⟩ := R6.out.at_ (k := k - 1) (by rw [List.length_map]; omega)
          obtain rfl : ad' = ad := (Option.some.inj had').symm
          rw [List.getElem_map] at hcell'
          have hgd : xs.getD (k - 1) 0 = xs[k - 1] := getD_at (by omega)
          have hd0 : decide (0 < k) = true := by simp; omega
          have e1 : IntKind.i64.wrap ((k : Int) - 1) = (k : Int) - 1 := by rw [IntKind.wrap_i64]; omega
          have e2 : (0 : Int) ≤ (k : Int) - 1 := by omega
          have e3 : (k : Int) - 1 < (m : Int) := by omega
          have e4 : ((k : Int) - 1).toNat = k - 1 := by omega
          by_cases hlow : xs[k - 1] < xs[k]
          · have HS2 : Hid (OkTo n xs (k + 1)) := Lib.hid (HOK.out (fun _ => by rw [hgd]; exact hlow))
            have hd : decide (xs[k] ≤ xs[k - 1]) = false := by simp; omega
            obtain ⟨x, hx⟩ : ∃ x, x = xs[k] := ⟨_, rfl⟩
            obtain ⟨v, hvv⟩ : ∃ v, v = xs[k - 1] := ⟨_, rfl⟩
            rw [← hx] at hcell CI HS hc hf HT p1 p2 p3 hd
            rw [← hvv] at hcell' hd
            have HCI := Lib.hid CI
            clear hx CI HOK hk0 hgd hlow hvv had'
            go_wp2_with fail
            go_quiet ((go_at_call 98; exact Calls.quiet_of_same (HCI.out _)))
            obtain ⟨wq, hwq⟩ : ∃ wq, wq = wr.drewN nq := ⟨_, rfl⟩
            rw [← hwq]
            have hcq : wq.cell? (ad'.add k) = some (.int .i64 x) := by rw [hwq]; exact hcell
            have hcg : wq.cell? ⟨g, x.toNat, none⟩ = some (.bool y) := by rw [hwq]; exact hc
            have hfq : wq.frozen? ⟨g, x.toNat, none⟩ = false := by rw [hwq]; exact hf
            have HTq : Hid ((wq.setCell ⟨g, x.toNat, none⟩ (.bool !y)).ownsRow W0.heap.size 4 1 (.slice (some ⟨g, 0, none⟩) bs.length cp) bs.length ((flip1 fb x).map Value.bool)) := Lib.hid (by rw [hwq]; exact HT.out.1)
            have HGq : Hid (W5.grownBy (wq.setCell ⟨g, x.toNat, none⟩ (.bool !y)) (some g)) := Lib.hid (by rw [hwq]; exact World.grownBy.trans' HT.out.2 ⟨rfl, rfl, rfl, Nat.le_refl _, fun _ _ _ => rfl⟩)
            obtain ⟨b0, b1, b2⟩ : FBox wq w4.heap.size wd hg (.slice (some ⟨g, 0, none⟩) bs.length cp) := by rw [hwq]; exact K6.out
            clear hwq HT hcell hc hf j0 j1 j2 i0 i1 i2
            go_wp2_with fail
            go_still_tail 16, (by kernel_rfl)
            change wpList _ _ _ _ _ wq.drew
            go_wp2
            go_roundw
            case rel => exact ⟨k + 1, by omega, by go_num, HS2, by rw [HS.out]; exact own_drew HTq.out, World.grownBy.trans' HGq.out grown_drew⟩
            case measure => simp [intOf]; omega
          · have HB := Lib.hid (ok_low (n := n) hka (by omega) (by rw [hgd]; exact hlow))
            have hd : decide (xs[k] ≤ xs[k - 1]) = true := by simp; omega
            obtain ⟨x, hx⟩ : ∃ x, x = xs[k] := ⟨_, rfl⟩
            obtain ⟨v, hvv⟩ : ∃ v, v = xs[k - 1] := ⟨_, rfl⟩
            rw [← hx] at hcell CI HS hc hf HT p1 p2 p3 hd
            rw [← hvv] at hcell' hd
            have HCI := Lib.hid CI
            clear hx CI HOK hk0 hgd hlow hvv had'
            go_wp2_with fail
            go_quiet ((go_at_call 98; exact Calls.quiet_of_same (HCI.out _)))
            have hB := B5.out
            obtain ⟨⟨x0, x1, x2⟩, y0, y1, y2⟩ := X6.out
            have hsz := HG.out.size
            go_wp2
            refine bodyPost_ret (v := .tuple #[.agg #[.int .i64 0, .int .i64 0, .slice none 0 0], .bool false]) (by simp [results, Try.results54, go_sem, x0, x1, x2]) rfl ⟨?_, ?_⟩
            · rw [HB.out]; exact ⟨none, 0, rfl, World.ownsRow_nil _ _ _ _⟩
            · exact (((below_drewN (B0.out.trans ((hB.grown HG.out hB.size (fun j hj => by injection hj; omega)).mono B0.out.size)) _).setCell (by simp) _).setCell (by simp) _).setCell (by simp) _
      · have HB := Lib.hid (ok_out hka hin)
        have CI := fun W => (l00In_any xs[k] 0 ((n : Int) - 1) W).mono (R' := fun e w' => e = .returned (.bool false) ∧ w' = W) fun _ _ h => ⟨h.1.trans (ret_bool (inB_f (by omega))), h.2.symm⟩
        obtain ⟨x, hx⟩ : ∃ x, x = xs[k] := ⟨_, rfl⟩
        rw [← hx] at hcell CI
        have HCI := Lib.hid CI
        clear hx hin CI
        go_wp2_with fail
        go_quiet ((go_at_call 98; exact Calls.quiet_of_same (HCI.out _)))
        have hB := B5.out
        obtain ⟨⟨x0, x1, x2⟩, y0, y1, y2⟩ := X6.out
        have hsz := HG.out.size
        go_wp2
        refine bodyPost_ret (v := .tuple #[.agg #[.int .i64 0, .int .i64 0, .slice none 0 0], .bool false]) (by simp [results, Try.results54, go_sem, x0, x1, x2]) rfl ⟨?_, ?_⟩
        · rw [HB.out]; exact ⟨none, 0, rfl, World.ownsRow_nil _ _ _ _⟩
        · exact (((below_drewN (B0.out.trans ((hB.grown HG.out hB.size (fun j hj => by injection hj; omega)).mono B0.out.size)) _).setCell (by simp) _).setCell (by simp) _).setCell (by simp) _
    · have hkm : k = m := by omega
      subst hkm
      have HB := Lib.hid (ok_all HK.out (show xs.length ≤ k by rw [Hm.out]; omega))
      have HE : Hid (flips bs (xs.take k) = flips bs xs) := Lib.hid (by rw [List.take_of_length_le (by rw [Hm.out]; omega)])
      obtain ⟨j0, j1, j2⟩ := K6.out
      obtain ⟨⟨x0, x1, x2⟩, y0, y1, y2⟩ := X6.out
      have hsz := HG.out.size
      have hB := B5.out
      go_wp2
      refine bodyPost_ret (v := .tuple #[.agg #[.int .i64 wd, .int .i64 hg, .slice (some ⟨g, 0, none⟩) bs.length cp], .bool true]) (by simp [results, Try.results54, go_sem, x0, x1, x2]) rfl ⟨?_, ?_⟩
      · rw [HB.out]
        refine ⟨some ⟨g, 0, none⟩, cp, by simp [pI, pL, flips_len], ?_⟩
        simp only [pL, cond_true]
        rw [flips_len, ← HE.out]
        exact own_set (own_set (own_set (own_base HO.out B0.out.size) (by rintro a ⟨⟩; simp; omega) _) (by rintro a ⟨⟩; simp; omega) _) (by rintro a ⟨⟩; simp; omega) _
      · exact (((B0.out.trans ((hB.grown HG.out hB.size (fun j hj => by injection hj; omega)).mono B0.out.size)).setCell (by simp) _).setCell (by simp) _).setCell (by simp) _

set_option maxHeartbeats 2000000 in
set_option maxRecDepth 100000 in
theorem specFlip_no (wd hg : Int) (A A' : Option Addr) (n c m c' : Nat) (w : World) (hn : n ≤ 1048576) (hv : vF wd hg n = false) :
    Calls Try.prog 54 #[.agg #[.int .i64 wd, .int .i64 hg, .slice A n c], .slice A' m c'] w fun e w' => GivesFB w.heap.size 0 0 [] false e w' ∧ Below w.heap.size w w' := by
  obtain ⟨W0, hW0⟩ : ∃ W0, W0 = (w.alloc (.cells #[.int .i64 wd, .int .i64 hg, .slice A n c] 27)).alloc (.cells #[.int .i64 0, .int .i64 0, .slice none 0 0] 27) := ⟨_, rfl⟩
  have B0 : Hid (Below w.heap.size w W0) := Lib.hid (by rw [hW0]; exact bthen (below_new w _) (below_new _ _))
  have z0 : W0.heap.size = w.heap.size + 2 := by rw [hW0]; simp
  have K0 : FBox W0 w.heap.size wd hg (.slice A n c) := by rw [hW0]; exact ⟨by simp [go_sem], by simp [go_sem], by simp [go_sem]⟩
  have X0 : Hid (Open3 W0 (w.heap.size + 1)) := Lib.hid (by rw [hW0]; simpa using Open3.new (w.alloc (.cells #[.int .i64 wd, .int .i64 hg, .slice A n c] 27)))
  have C76 := l07Is_any wd hg A n c w.heap.size W0 (by omega) K0
  rw [hv] at C76
  have H76 := Lib.hid C76
  clear C76 hv K0
  go_enter Try.func54, Try.ntmps54
  go_wp2_with fail
  rw [← hW0]
  clear hW0 z0
  refine H76.out.mono ?_
  rintro e w1 ⟨rfl, m1, rfl⟩
  obtain ⟨⟨x0, x1, x2⟩, y0, y1, y2⟩ := X0.out
  go_wp2
  refine bodyPost_ret (v := .tuple #[.agg #[.int .i64 0, .int .i64 0, .slice none 0 0], .bool false]) (by simp [results, Try.results54, go_sem, x0, x1, x2]) rfl ⟨⟨none, 0, rfl, World.ownsRow_nil _ _ _ _⟩, ?_⟩
  exact (((below_drewN B0.out _).setCell (by simp) _).setCell (by simp) _).setCell (by simp) _
theorem specFlip_any (wd hg : Int) (A A' : Option Addr) (n c m c' : Nat) (bs : List Bool) (xs : List Int) (w : World) (hn : bs.length = n) (hn1 : n ≤ 1048576) (hm : xs.length = m) (hm1 : m ≤ 1048576) (hr : Rd w w.heap.size A (bs.map Value.bool)) (hr' : Rd w w.heap.size A' (xs.map (Value.int .i64))) :
    Calls Try.prog 54 #[.agg #[.int .i64 wd, .int .i64 hg, .slice A n c], .slice A' m c'] w fun e w' => GivesFB w.heap.size (pI (vF wd hg n && listOk n xs) wd) (pI (vF wd hg n && listOk n xs) hg) (pL (vF wd hg n && listOk n xs) (flips bs xs)) (vF wd hg n && listOk n xs) e w' ∧ Below w.heap.size w w' := by
  cases hv : vF wd hg n
  · exact specFlip_no wd hg A A' n c m c' w hn1 hv
  · rw [Bool.true_and]
    exact specFlip_in wd hg A A' n c m c' bs xs w hn hm hm1 hr hr' hv
end Go.Proofs.Ytbefcfdmaafghaa
