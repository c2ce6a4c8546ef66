/- HolesOf, the reference's way. -/
import Derived.Test.YtbefcfdmaafghaaHoles
namespace Go.Proofs.Ytbefcfdmaafghaa
open Go.RowKit
set_option maxHeartbeats 8000000 in
set_option maxRecDepth 100000 in
theorem specHolesOf_any (wd hg : Int) (A : Option Addr) (n c : Nat) (bs : List Bool) (w : World) (hn : bs.length = n) (hc : n ≤ 140737488351232) (hr : Rd w w.heap.size A (bs.map Value.bool)) :
    Calls Try.prog 69 #[.agg #[.int .i64 wd, .int .i64 hg, .slice A n c]] w fun e w' => e = .returned (.tuple #[.int .i64 (holesR wd hg bs), .bool (vF wd hg bs.length)]) ∧ Below w.heap.size w w' := by
  have Hr := Lib.hid hr; clear hr
  have C76 := l07Is_any wd hg A n c w.heap.size (w.alloc (.cells #[.int .i64 wd, .int .i64 hg, .slice A n c] 27)) hc (FBox.new w 27 wd hg (.slice A n c))
  by_cases hv : vF wd hg n = true
  · have hX : holesR wd hg bs = (cntF (edgesK (rimB wd hg) (grp (nb wd hg) (freeB bs) n n).1 (grp (nb wd hg) (freeB bs) n n).2 n) : Int) := by unfold holesR; rw [hn, if_pos hv]
    have HX := Lib.hid hX; clear hX
    rw [hn, hv]
    rw [hv] at C76
    obtain ⟨⟨⟨h1, h2⟩, h3, h4⟩, h5⟩ := vF_iff.1 hv
    obtain ⟨q1, q2⟩ := prod_bd h1 h2 h3 h4
    have H5 := Lib.hid h5
    have n0 : 0 < n := by omega
    have n1 : n ≤ 256 := by omega
    have H76 := Lib.hid C76
    have Hn := Lib.hid hn
    obtain ⟨r1, r2, r3⟩ := grp_row wd hg bs n
    obtain ⟨b0, bi, bz0, bz1, bz2⟩ := info_parts Try.info4
    clear C76 hv h5 hn
    go_enter Try.func69, Try.ntmps69
    go_wp2_with fail
    refine H76.out.mono ?_
    rintro e w0 ⟨rfl, m, rfl⟩
    obtain ⟨w1, hw1⟩ : ∃ x, x = (w.alloc (.cells #[.int .i64 wd, .int .i64 hg, .slice A n c] 27)).drewN m := ⟨_, rfl⟩
    have hb1 : Below (w.alloc (.cells #[.int .i64 wd, .int .i64 hg, .slice A n c] 27)).heap.size (w.alloc (.cells #[.int .i64 wd, .int .i64 hg, .slice A n c] 27)) w1 := by rw [hw1]; exact below_drewN (Below.refl _ _) _
    rw [← hw1]
    have B1 := Lib.hid (bthen (below_new w _) hb1)
    have K1 := Lib.hid ((FBox.new w 27 wd hg (.slice A n c)).below hb1 (by simp))
    have z1 : w.heap.size < w1.heap.size := by have := hb1.size; simp at this; omega
    have R1 := Lib.hid ((Hr.out.below B1.out).more B1.out.size)
    have HG := Lib.hid (l07Groups_any wd hg A n c w.heap.size bs w1 Hn.out R1.out K1.out z1 h1 h2 h3 h4 H5.out)
    clear hb1 hw1 H76
    obtain ⟨k0, k1, k2⟩ := K1.out
    go_wp2_with fail
    refine HG.out.mono ?_
    rintro e w2 ⟨⟨A2, c2, A3, c3, rfl, ho2⟩, hb2⟩
    obtain ⟨out, hout⟩ : ∃ out, out = (grp (nb wd hg) (freeB bs) n n).1 := ⟨_, rfl⟩
    obtain ⟨cn, hcn⟩ : ∃ cn, cn = (grp (nb wd hg) (freeB bs) n n).2 := ⟨_, rfl⟩
    rw [← hout, ← hcn] at r3 HX
    rw [← hout] at r1 ho2
    rw [← hcn] at r2 ⊢
    obtain ⟨go, co, hv2, hgo0, hgo1, hgo2, hgo3⟩ := own_some ho2 n0
    injection hv2 with hA2 _ hc2
    subst hA2 hc2
    have O2 := Lib.hid ho2
    have B2 := Lib.hid (bthen B1.out hb2)
    have K2 := Lib.hid (K1.out.below hb2 z1)
    have z2 : w.heap.size < w2.heap.size := by have := hb2.size; omega
    have HR1 := Lib.hid r1
    have HR3 := Lib.hid r3
    clear hout hcn hb2 HG k0 k1 k2 R1 r1 r3 ho2
    go_wp2_with (at_make; go_must (refine wpList_make_full _ rfl _ _ 22 rfl w2.heap.size 4 b0 (.bool false) 1 Try.underlying22 bi bz0 bz1 _ _ _ _ cn rfl rfl rfl rfl ?_ ?_ ?_ ?_))
    · rw [bz2]; omega
    · unfold maxLen; omega
    · exact Nat.le_refl _
    intro w3 hown hgrow
    have B3 := Lib.hid ((Below.refl w2.heap.size w2).grown hgrow (Nat.le_refl _) (fun k hk => by cases hk))
    have O3 := Lib.hid (made_bools hown)
    have z3 : w2.heap.size < w3.heap.size := (O3.out.lt _ rfl).2
    have P3 := Lib.hid (own_next O2.out B3.out)
    have K3 := Lib.hid (K2.out.below B3.out z2)
    have F3 := Lib.hid (bthen B2.out B3.out)
    obtain ⟨EK, hEK⟩ : ∃ EK : Nat → List Bool, EK = edgesK (rimB wd hg) out cn := ⟨_, rfl⟩
    have HE0 : Hid (EK 0 = List.replicate cn false) := Lib.hid (by rw [hEK]; rfl)
    have HEY : Hid (∀ k, 0 ≤ out.getD k 0 → rimB wd hg k = true → EK (k + 1) = (EK k).set (out.getD k 0).toNat true) := Lib.hid (fun k ha hb => by rw [hEK]; exact edgesK_yes ha hb)
    have HEN : Hid (∀ k, ¬ (0 ≤ out.getD k 0) ∨ rimB wd hg k = false → EK (k + 1) = EK k) := Lib.hid (fun k ha => by rw [hEK]; exact edgesK_no ha)
    have HEL : Hid (∀ k, (EK k).length = cn) := Lib.hid (fun k => by rw [hEK]; exact edgesK_len _ _ _ _)
    rw [← hEK] at HX
    have hwd : ¬ wd = 0 := by omega
    clear hown hgrow hEK O2 K2 B2
    go_wp2_with fail
    go_loopw [23] (fun i wr => ∃ k : Nat, k ≤ n ∧ i = .int .i64 k ∧ wr.ownsRow w2.heap.size 4 1 (.slice (some ⟨w2.heap.size, 0, none⟩) cn cn) cn ((EK k).map Value.bool) ∧ wr.ownsRow w1.heap.size 2 1 (.slice (some ⟨go, 0, none⟩) n c2) n (out.map (Value.int .i64)) ∧ FBox wr w.heap.size wd hg (.slice A n c) ∧ Below w.heap.size w wr ∧ w2.heap.size < wr.heap.size) (fun i _ => n - (intOf i).toNat)
    case atStart => exact ⟨0, Nat.zero_le _, rfl, by rw [HE0.out]; exact O3.out, P3.out, K3.out, F3.out, z3⟩
    case round =>
      obtain ⟨k, hk, rfl, he, ho, hkx, hb, hz⟩ := hrel
      have HE := Lib.hid he
      have HO := Lib.hid ho
      have HK := Lib.hid hkx
      have HB := Lib.hid hb
      clear he ho hkx hb
      by_cases hlt : k < n
      · have hcO := ownI_cell (j := k) HO.out hlt HR1.out
        obtain ⟨g0, g1⟩ := HR3.out k hlt
        have hEY := HEY.out k
        have hEN := HEN.out k
        have hlk := HEL.out k
        obtain ⟨g, hgv⟩ : ∃ g, g = out.getD k 0 := ⟨_, rfl⟩
        rw [← hgv] at hcO g0 g1 hEY hEN
        obtain ⟨k0, k1, k2⟩ := HK.out
        have hkp : (k : Int) < wd * hg := by have := H5.out; omega
        have hri := rim_iff (hg := hg) (i := (k : Int)) h1 (by omega) hkp
        have r1 : 0 ≤ (k : Int) % wd := Int.emod_nonneg _ (by omega)
        have r2 : (k : Int) % wd < wd := Int.emod_lt_of_pos _ (by omega)
        have d0 : 0 ≤ (k : Int) / wd := Int.ediv_nonneg (by omega) (by omega)
        have d1 : (k : Int) / wd ≤ k := Int.ediv_le_self _ (by omega)
        by_cases hneg : 0 ≤ g
        · have hd : decide (0 ≤ g) = true := by simpa using hneg
          have hgl : g.toNat < (EK k).length := by rw [hlk]; omega
          have hce := ownB_cell (j := g.toNat) HE.out (by omega) hgl
          obtain ⟨bx, hbx⟩ : ∃ bx, bx = (EK k)[g.toNat]'hgl := ⟨_, rfl⟩
          rw [← hbx] at hce
          have hfe := HE.out.frozenAt g.toNat
          have hst := set_stored (x := g) HE.out (World.grownBy.refl wr (some w2.heap.size))
          have HE7 := Lib.hid hst.1
          have HO7 := Lib.hid (HO.out.kept hst.2 (.inr fun he => by have h : go = w2.heap.size := Option.some.inj he; omega))
          have HK7 := Lib.hid (HK.out.grown hst.2 (by omega) (by intro h; injection h; omega))
          have HB7 := Lib.hid (HB.out.setCell (p := ⟨w2.heap.size, g.toNat, none⟩) (by show w.heap.size ≤ w2.heap.size; omega) (.bool true))
          cases hrm : rimB wd hg k
          · have hno : ¬ ((k : Int) % wd = 0 ∨ (k : Int) / wd = 0 ∨ (k : Int) % wd = wd - 1 ∨ (k : Int) / wd = hg - 1) := by rw [← hri, hrm]; simp
            have t1 : ((k : Int) % wd == 0) = false := by rw [beq_eq_false_iff_ne]; omega
            have t2 : ((k : Int) / wd == 0) = false := by rw [beq_eq_false_iff_ne]; omega
            have t3 : ((k : Int) % wd == wd - 1) = false := by rw [beq_eq_false_iff_ne]; omega
            have t4 : ((k : Int) / wd == hg - 1) = false := by rw [beq_eq_false_iff_ne]; omega
            have HS := Lib.hid (hEN (.inr hrm))
            clear hEY hEN hgv hrm hlk hri hno hst hbx hgl HE7 HO7 HK7 HB7
            go_wp2
            go_roundw
            case rel => exact ⟨k + 1, by omega, by go_num, by rw [HS.out]; exact HE.out, HO.out, HK.out, HB.out, hz⟩
            case measure => simp [intOf]; omega
          · have hyes := hri.1 hrm
            have HS := Lib.hid (hEY hneg hrm)
            clear hEY hEN hgv hrm hlk hri hst hbx hgl
            by_cases c1 : (k : Int) % wd = 0
            · have t1 : ((k : Int) % wd == 0) = true := by rw [beq_iff_eq]; omega
              clear hyes
              have C1 := Lib.hid c1; clear c1
              go_wp2
              go_roundw
              case rel => exact ⟨k + 1, by omega, by go_num, by rw [HS.out]; exact HE7.out, HO7.out, HK7.out, HB7.out, by rw [World.size_setCell]; omega⟩
              case measure => simp [intOf]; omega
            · have t1 : ((k : Int) % wd == 0) = false := by rw [beq_eq_false_iff_ne]; omega
              by_cases c2' : (k : Int) / wd = 0
              · have t2 : ((k : Int) / wd == 0) = true := by rw [beq_iff_eq]; omega
                clear hyes
                have C2 := Lib.hid c2'; clear c2'
                go_wp2
                go_roundw
                case rel => exact ⟨k + 1, by omega, by go_num, by rw [HS.out]; exact HE7.out, HO7.out, HK7.out, HB7.out, by rw [World.size_setCell]; omega⟩
                case measure => simp [intOf]; omega
              · have t2 : ((k : Int) / wd == 0) = false := by rw [beq_eq_false_iff_ne]; omega
                by_cases c3' : (k : Int) % wd = wd - 1
                · have t3 : ((k : Int) % wd == wd - 1) = true := by rw [beq_iff_eq]; omega
                  clear hyes
                  have C3 := Lib.hid c3'; clear c3'
                  go_wp2
                  go_roundw
                  case rel => exact ⟨k + 1, by omega, by go_num, by rw [HS.out]; exact HE7.out, HO7.out, HK7.out, HB7.out, by rw [World.size_setCell]; omega⟩
                  case measure => simp [intOf]; omega
                · have t3 : ((k : Int) % wd == wd - 1) = false := by rw [beq_eq_false_iff_ne]; omega
                  have t4 : ((k : Int) / wd == hg - 1) = true := by rw [beq_iff_eq]; omega
                  clear hyes
                  go_wp2
                  go_roundw
                  case rel => exact ⟨k + 1, by omega, by go_num, by rw [HS.out]; exact HE7.out, HO7.out, HK7.out, HB7.out, by rw [World.size_setCell]; omega⟩
                  case measure => simp [intOf]; omega
        · have HS := Lib.hid (hEN (.inl (by omega)))
          have hd : decide (0 ≤ g) = false := by simpa using hneg
          clear hEY hEN hgv hlk hri
          go_wp2
          go_roundw
          case rel => exact ⟨k + 1, by omega, by go_num, by rw [HS.out]; exact HE.out, HO.out, HK.out, HB.out, hz⟩
          case measure => simp [intOf]; omega
      · obtain rfl : n = k := by omega
        obtain ⟨ls, hls⟩ : ∃ ls, ls = EK n := ⟨_, rfl⟩
        have hll : ls.length = cn := by rw [hls]; exact HEL.out n
        rw [← hls] at HE HX
        have HLL := Lib.hid hll
        obtain ⟨wo, rfl⟩ : ∃ wo : World, wo = wr := ⟨_, rfl⟩
        clear hls hll
        go_wp2_with fail
        go_loop [10, 70] (fun v i => ∃ k : Nat, k ≤ cn ∧ i = .int .i64 k ∧ v = .int .i64 (cntF (ls.take k) : Nat)) (fun _ i => cn - (intOf i).toNat)
        case atStart => exact ⟨0, Nat.zero_le _, rfl, rfl⟩
        case round =>
          obtain ⟨k, hk, rfl, rfl⟩ := hrel
          have hcl := cntF_le (ls.take k)
          rw [List.length_take] at hcl
          by_cases hlt : k < cn
          · have hkl : k < ls.length := by rw [HLL.out]; exact hlt
            have hce := ownB_cell (j := k) HE.out hlt hkl
            have HS := Lib.hid (cntF_snoc hkl)
            cases hbk : ls[k]
            · rw [hbk] at hce HS
              clear hbk
              go_wp2
              go_round
              case rel => exact ⟨k + 1, by omega, by go_num, by rw [HS.out]; rfl⟩
              case measure => simp [intOf]; omega
            · rw [hbk] at hce HS
              clear hbk
              go_wp2
              go_round
              case rel => exact ⟨k + 1, by omega, by go_num, by rw [HS.out]; rfl⟩
              case measure => simp [intOf]; omega
          · obtain rfl : cn = k := by omega
            have HT : Hid (holesR wd hg bs = (cntF (ls.take cn) : Int)) := Lib.hid (by rw [List.take_of_length_le (by rw [HLL.out]; omega)]; exact HX.out)
            go_wp2
            go_ret2
            exact ⟨by rw [HT.out]; rfl, HB.out⟩
  · have hv0 : vF wd hg n = false := by simpa using hv
    have hX : holesR wd hg bs = 0 := by unfold holesR; rw [hn, if_neg hv]
    rw [hv0] at C76
    have H76 := Lib.hid C76
    rw [hX, hn, hv0]
    clear hv hX hn C76 hv0
    go_enter Try.func69, Try.ntmps69
    go_wp2_with fail
    refine H76.out.mono ?_
    rintro e w1 ⟨rfl, m, rfl⟩
    go_wp2
    go_ret2
    exact ⟨rfl, below_drewN (below_new _ _) _⟩
end Go.Proofs.Ytbefcfdmaafghaa
