/- The law FnWalks answers true, whatever the bytes. -/
import Derived.Test.YtbojlgbkkdnegaaRankV
import Derived.Test.YtbojlgbkkdnegaaRosI
import Derived.BigQuiet
import Derived.Deep.DeepCutAuto
namespace Go.Proofs.Ytbojlgbkkdnegaa
open Ieee Go.RowKit
theorem walkL_at {keep : Nat} {seed : Int} {n j : Nat} (h : j < (walkL keep seed n).length) : (walkL keep seed n)[j] = nW keep seed (j + 1) := by simp [walkL]
set_option maxHeartbeats 40000000 in
set_option maxRecDepth 100000 in
theorem lawWalks (A B : Option Addr) (n c m d : Nat) (bs ms : List Int) (w : World) (hb : ByteL bs) (hmb : ByteL ms) (hn : bs.length = n) (hm : ms.length = m) (hn2 : n ≤ 9223372036854775807) (hm2 : m ≤ 9223372036854775807)
    (hr : Rd w w.heap.size A (bs.map (Value.int .u8))) (hr2 : Rd w w.heap.size B (ms.map (Value.int .u8))) :
    Calls Try.prog 3 #[.slice A n c, .slice B m d] w fun e w' => e = .returned (.bool true) ∧ Below w.heap.size w w' := by
  have HL := Lib.hid (fun W => r8Long_any A B n c m d W hn2 hm2)
  by_cases hlong : (decide (48 < n) || decide (48 < m)) = true
  · rw [hlong] at HL
    clear hr hr2
    go_enter Try.func3, Try.ntmps3
    go_wp2_with fail
    refine (HL.out _).mono ?_
    rintro e w' ⟨rfl, rfl⟩
    go_wp2
    go_ret
    exact ⟨rfl, Below.refl _ _⟩
  · have hlong' : (decide (48 < n) || decide (48 < m)) = false := by simpa using hlong
    rw [hlong'] at HL
    have hn48 : n ≤ 48 := by simp at hlong; omega
    have hm48 : m ≤ 48 := by simp at hlong; omega
    have Hr := Lib.hid hr
    have Hr2 := Lib.hid hr2
    have HB := Lib.hid hb
    have HMB := Lib.hid hmb
    have hcv := fun (z : Int) (W : World) => run_convert_int_float (P := Try.prog) W 2 25 .i64 .f32 z (by rw [Try.underlying2]; rfl) Try.und25
    clear hr hr2 hb hmb hlong hlong'
    go_enter Try.func3, Try.ntmps3
    go_wp2_with fail
    refine (HL.out _).mono ?_
    rintro e w' ⟨rfl, hw⟩
    rw [hw]
    clear hw w' HL
    go_wp2_with fail
    refine (r8At_any B m d ms 0 256 w HMB.out hm hm48 (by omega) (by omega) (by omega) Hr2.out).mono ?_
    rintro e w' ⟨⟨z0, rfl, z01, z02⟩, hw⟩
    rw [hw]
    clear hw w'
    go_wp2_with fail
    refine (r8At_any B m d ms 1 9 w HMB.out hm hm48 (by omega) (by omega) (by omega) Hr2.out).mono ?_
    rintro e w' ⟨⟨z1, rfl, z11, z12⟩, hw⟩
    rw [hw]
    clear hw w'
    have gk := run_num (P := Try.prog) (qF_is (z := z1 - 4) (by omega) (by omega))
    go_wp2_with fail
    refine (r8At_any B m d ms 2 20 w HMB.out hm hm48 (by omega) (by omega) (by omega) Hr2.out).mono ?_
    rintro e w' ⟨⟨z2, rfl, z21, z22⟩, hw⟩
    rw [hw]
    clear hw w' gk
    obtain ⟨K, hK⟩ : ∃ K : Nat, 3 + z2 = (K : Int) + 1 := ⟨(2 + z2).toNat, by omega⟩
    obtain ⟨k1, k2, k3, k4⟩ := keep_v (z := z1 - 4) (by omega) (by omega)
    obtain ⟨keep, hkeep⟩ : ∃ keep, keep = qF (z1 - 4) := ⟨_, rfl⟩
    rw [← hkeep] at k1 k2 k3 k4 ⊢
    obtain ⟨seed, hseed⟩ : ∃ seed, seed = z0 * 7919 + 3 := ⟨_, rfl⟩
    have sd1 : 0 ≤ seed := by omega
    have sd2 : seed < 2147483648 := by omega
    have hK2 : 2 ≤ K := by omega
    have hK21 : K ≤ 21 := by omega
    have hne : (nS seed (K + 1) == seed) = false := by
      rw [beq_eq_false_iff_ne, hseed]
      exact seed_ne (by omega) (by omega) (by omega) (by omega)
    have HOK := Lib.hid (fun (k : Nat) (hk : k ≤ 22) => noise_at k1 k2 sd1 sd2 hk)
    have HST := Lib.hid (walk_steps k1 k2 sd1 sd2 (show 3 ≤ K + 1 by omega) (by omega))
    have HN1 := Lib.hid (fun W => (noiseWalk_any (K + 1) keep seed W (by omega) k3 k4 sd1 sd2 (HOK.out (K + 1) (by omega)) : Calls Try.prog 7 #[.int .i64 ((K : Int) + 1), .float .f32 keep, .int .i64 seed] W _))
    have HN2 := Lib.hid (fun W => noiseWalk_any K keep seed W (by omega) k3 k4 sd1 sd2 (HOK.out K (by omega)))
    have HN3 := Lib.hid (fun W => (noiseWalk_any 0 keep seed W (by omega) k3 k4 sd1 sd2 (HOK.out 0 (by omega)) : Calls Try.prog 7 #[.int .i64 0, .float .f32 keep, .int .i64 seed] W _))
    clear k3 k4 k1 k2 HOK z11 z12 z21 z22 z01 z02
    go_wp2_with fail
    rw [← hkeep, ← hseed]
    clear hkeep hseed hK
    refine (HN1.out _).mono ?_
    rintro e w1 ⟨⟨A1, c1, rfl, ho1⟩, hb1⟩
    have B1 := Lib.hid hb1
    obtain ⟨A1', c1', hA1, hr1⟩ := shapeOf ho1
    cases hA1
    have R1 := Lib.hid hr1
    clear ho1 hb1 hr1 HN1
    go_wp2_with fail
    refine (HN2.out _).mono ?_
    rintro e w2 ⟨⟨A2, c2, rfl, ho2⟩, hb2⟩
    have B2 := Lib.hid (bthen B1.out hb2)
    have R12 := Lib.hid (R1.out.next hb2)
    obtain ⟨A2', c2', hA2, hr2⟩ := shapeOf ho2
    cases hA2
    have R2 := Lib.hid hr2
    clear ho2 hb2 hr2 HN2 B1 R1
    go_wp2_with fail
    refine (HN3.out _).mono ?_
    rintro e w3 ⟨⟨A3, c3, rfl, ho3⟩, hb3⟩
    have B3 := Lib.hid (bthen B2.out hb3)
    have R13 := Lib.hid (R12.out.next hb3)
    have R23 := Lib.hid (R2.out.next hb3)
    clear ho3 hb3 HN3 B2 R12 R2
    have h00 : nS seed 0 = seed := rfl
    rw [h00]
    go_wp2_with fail
    go_loopw [17] (fun i wr => ∃ k : Nat, k ≤ K ∧ i = .int .i64 k ∧ ∃ m, wr = w3.drewN m) (fun i _ => K - (intOf i).toNat)
    case atStart => exact ⟨0, Nat.zero_le _, rfl, 0, rfl⟩
    case round =>
      obtain ⟨k, hk, rfl, mm, rfl⟩ := hrel
      by_cases hlt : k < K
      · as_aux_lemma =>
        obtain ⟨ad1, rfl, _, hc1⟩ := R13.out.at_ (k := k) (by rw [List.length_map, walkL_len]; omega)
        obtain ⟨ad2, rfl, _, hc2⟩ := R23.out.at_ (k := k) (by rw [List.length_map, walkL_len]; omega)
        rw [List.getElem_map, walkL_at] at hc1 hc2
        have hx := HST.out.is _ (getD_mem (i := k) (by rw [walkL_len]; omega))
        rw [walkL_get _ _ (show k < K + 1 by omega)] at hx
        have ho := order_self hx.num
        have hk1 : (k : Int) < (K : Int) + 1 := by omega
        obtain ⟨x, hxe⟩ : ∃ x, x = nW keep seed (k + 1) := ⟨_, rfl⟩
        rw [← hxe] at hc1 hc2 ho
        clear hxe hx
        go_wp2_with fail
        go_quiet (fail)
        go_wp2_with fail
        go_roundw
        case rel => exact ⟨k + 1, by omega, by go_num, _, by first | rfl | exact World.drewN_drewN ..⟩
        case measure => simp [intOf]; omega
      · as_aux_lemma =>
        obtain rfl : k = K := by omega
        have HST := HST
        obtain ⟨w4, hw4⟩ : ∃ w4, w4 = w3.drewN mm := ⟨_, rfl⟩
        have B4 : Hid (Below w.heap.size w w4) := Lib.hid (by rw [hw4]; exact below_drewN B3.out mm)
        have R14 : Hid (Rd w4 w4.heap.size A1 ((walkL keep seed (k + 1)).map (Value.float .f32))) := Lib.hid (by rw [hw4]; exact R13.out)
        rw [← hw4]
        clear hw4 B3 R13 R23
        have hlen : (walkL keep seed (k + 1)).length = k + 1 := walkL_len _ _ _
        obtain ⟨xs, hxs⟩ : ∃ xs, xs = walkL keep seed (k + 1) := ⟨_, rfl⟩
        rw [← hxs] at HST R14 hlen
        clear hxs hlt
        have HX := Lib.hid hlen
        have HLI := Lib.hid HST.out.list
        obtain ⟨s1, s2, s3, s4⟩ := HST.out.span
        obtain ⟨q1, q2, q3, q4, q5, q6⟩ := HST.out.ineq2
        obtain ⟨j1, j2, j3⟩ := HST.out.ineq1
        have e1 : numV (spanF xs) = spanF xs := by unfold numV; rw [s1.fin, if_pos rfl]
        have e2 : numV (growF xs) = growF xs := by unfold numV; rw [q1.fin, if_pos rfl]
        have lt1 : (FloatKind.f32.format.order (spanF xs) 0 == some .lt) = false := by rw [(order_v s1 zero_is.1).1, zero_is.2, decide_eq_false_iff_not]; grind
        have lt2 : (FloatKind.f32.format.order (growF xs) 0 == some .lt) = false := by rw [(order_v q1 zero_is.1).1, zero_is.2, decide_eq_false_iff_not]; grind
        have HR := Lib.hid (rangeOfWalk_any A1 (k + 1) c1 xs w4 HX.out (by omega) (by omega) HLI.out R14.out)
        rw [e1, s1.fin] at HR
        have e3 : rankOk xs = true := HLI.out
        have e4 : rankR xs = (rankL xs).map (fun i : Nat => (i : Int)) := by unfold rankR; rw [e3, if_pos rfl]
        have hrl : (rankL xs).length = k + 1 := by rw [(rank_spec xs).1.length_eq]; simpa using HX.out
        have HRL := Lib.hid hrl
        have fi2 := q1.fin
        clear e1 s1 s2 s3 s4 q1 q2 e3 hrl hlen
        go_wp2_with fail
        refine HR.out.mono ?_
        rintro e w5 ⟨rfl, hb5⟩
        have B5 := Lib.hid (bthen B4.out hb5)
        have R15 := Lib.hid (R14.out.next hb5)
        have HG := Lib.hid (stepGrowth_any A1 (k + 1) c1 xs w5 HX.out (by omega) (by omega) HLI.out HST.out.fin R15.out)
        rw [e2, fi2] at HG
        clear hb5 B4 R14 HR e2 fi2
        go_wp2_with fail
        refine HG.out.mono ?_
        rintro e w6 ⟨rfl, hb6⟩
        have B6 := Lib.hid (bthen B5.out hb6)
        have R16 := Lib.hid (R15.out.next hb6)
        have HK := Lib.hid (rankOf_any A1 (k + 1) c1 xs w6 HX.out (by omega) R16.out)
        clear hb6 B5 R15 HG
        go_wp2_with fail
        refine HK.out.mono ?_
        rintro e w7 ⟨⟨A7, c7, rfl, ho7⟩, hb7⟩
        have hrl := HRL.out
        have ek : rankOk xs = true := HLI.out
        have el : (rankR xs).length = k + 1 := by rw [e4, List.length_map, hrl]
        rw [e4, List.map_map] at ho7
        rw [List.length_map, hrl] at ho7
        rw [ek, el]
        obtain ⟨A7', c7', hA7, hr7⟩ := shapeOf ho7
        cases hA7
        have R7 := Lib.hid hr7
        have B7 := Lib.hid (bthen B6.out hb7)
        have R17 := Lib.hid (R16.out.next hb7)
        clear hb7 ho7 hr7 B6 R16 HK e4 hrl ek el
        go_wp2_with fail
        go_loopw [24, 25] (fun v i wr => ∃ j i1 : Nat, Hid (i1 = j + 1) ∧ i1 ≤ k + 1 ∧ i = .int .i64 i1 ∧ v = .float .f64 (mostF xs j) ∧ ∃ m, wr = w7.drewN m) (fun _ i _ => k + 1 - (intOf i).toNat)
        case atStart => exact ⟨0, 1, Lib.hid rfl, by omega, rfl, rfl, 0, rfl⟩
        case round =>
          obtain ⟨j, i1, HI, hi1, rfl, rfl, hwr⟩ := hrel
          have R17 := Lib.hid (rd_drw R17.out hwr)
          have R7 := Lib.hid (rd_drw R7.out hwr)
          have HWR := Lib.hid hwr
          clear hwr
          have hij := HI.out
          by_cases hlt : i1 < k + 1
          · as_aux_lemma =>
            have hxl := HX.out
            have hrl := HRL.out
            obtain ⟨ad, rfl, _, hc1⟩ := R17.out.at_ (k := i1) (by rw [List.length_map]; omega)
            obtain ⟨ad', had', _, hc2⟩ := R17.out.at_ (k := j) (by rw [List.length_map]; omega)
            obtain rfl : ad' = ad := (Option.some.inj had').symm
            have hra := rank_at HST.out.is (k := j) (by omega)
            obtain ⟨ra, hra1⟩ : ∃ ra, ra = (rankL xs).getD (j + 1) 0 := ⟨_, rfl⟩
            obtain ⟨rb, hrb1⟩ : ∃ rb, rb = (rankL xs).getD j 0 := ⟨_, rfl⟩
            have ral : ra < xs.length := by rw [hra1]; exact hra.lt1
            have rbl : rb < xs.length := by rw [hrb1]; exact hra.lt0
            obtain ⟨ad2, had2, _, hc3⟩ := R17.out.at_ (k := ra) (by rw [List.length_map]; exact ral)
            obtain rfl : ad2 = ad' := (Option.some.inj had2).symm
            obtain ⟨ad3, had3, _, hc4⟩ := R17.out.at_ (k := rb) (by rw [List.length_map]; exact rbl)
            obtain rfl : ad3 = ad2 := (Option.some.inj had3).symm
            obtain ⟨ar, rfl, _, hc5⟩ := R7.out.at_ (k := i1) (by rw [List.length_map]; omega)
            obtain ⟨ar', har', _, hc6⟩ := R7.out.at_ (k := j) (by rw [List.length_map]; omega)
            obtain rfl : ar' = ar := (Option.some.inj har').symm
            have ego : ∀ (l : List Nat) (i : Nat) (h : i < l.length), l[i] = l.getD i 0 := fun l i h => by simp [List.getD, List.getElem?_eq_getElem h]
            rw [List.getElem_map, ego] at hc1 hc2 hc3 hc4
            rw [List.getElem_map, ego] at hc5 hc6
            have e1 : (rankL xs).getD i1 0 = ra := by rw [hra1, hij]
            rw [e1] at hc5
            rw [← hrb1] at hc6
            have o1 := hra.ord.1
            have o2 := hra.ord.2
            rw [← hra1, ← hrb1] at o1 o2
            obtain ⟨g1, g2, g3, g4, g5, g6, g7, _, _⟩ := HST.out.gap (k := j) (by omega)
            have M := HST.out.most j (by omega)
            have HM : Hid (mostF xs (j + 1) = fmax .f64 (mostF xs j) (gapF (wid (xs.getD (j + 1) 0)) (wid (xs.getD j 0)))) := Lib.hid rfl
            have e2 : xs.getD i1 0 = xs.getD (j + 1) 0 := by rw [hij]
            rw [e2] at hc1
            obtain ⟨x1, hx1⟩ : ∃ x, x = xs.getD (j + 1) 0 := ⟨_, rfl⟩
            obtain ⟨x0, hx0⟩ : ∃ x, x = xs.getD j 0 := ⟨_, rfl⟩
            obtain ⟨y1, hy1⟩ : ∃ x, x = xs.getD ra 0 := ⟨_, rfl⟩
            obtain ⟨y0, hy0⟩ : ∃ x, x = xs.getD rb 0 := ⟨_, rfl⟩
            rw [← hx1] at hc1 g1 g3 g5 g6 g7 HM
            rw [← hx0] at hc2 g2 g4 g5 g6 g7 HM
            rw [← hy1] at hc3 o1 o2
            rw [← hy0] at hc4 o1 o2
            have HG := Lib.hid (fun W => r8Gap_any (wid x1) (wid x0) W g1 g2 g5 g6)
            have hv1 := fun (W : World) => run_convert_float_float (P := Try.prog) W 25 35 .f32 .f64 x1 _ (by rw [Try.und25]; rfl) Try.und35 g3
            have hv0 := fun (W : World) => run_convert_float_float (P := Try.prog) W 25 35 .f32 .f64 x0 _ (by rw [Try.und25]; rfl) Try.und35 g4
            have hmx := run_max_f (P := Try.prog) M.is g7
            have hw2 : (i1 : Int) - 1 = (j : Int) := by omega
            have hw1 : IntKind.i64.wrap (j : Int) = (j : Int) := by rw [IntKind.wrap_i64]; omega
            have hk0 : (j : Int) < (k : Int) + 1 := by omega
            have hk1 : (i1 : Int) < (k : Int) + 1 := by omega
            have ra1 : (ra : Int) < (k : Int) + 1 := by omega
            have rb1 : (rb : Int) < (k : Int) + 1 := by omega
            clear g1 g2 g3 g4 g5 g6 g7 M hx1 hx0 hy1 hy0 e1 e2 ego hra1 hrb1 hra had' had2 had3 har' hxl hrl hij ral rbl
            go_wp2_with fail
            go_quiet ((go_at_call 11; go_must (exact Calls.quiet_of_same (HG.out _))))
            go_wp2_with fail
            cases he : (FloatKind.f32.format.order y1 y0 == some .eq)
            · clear o2
              go_quiet (fail)
              go_wp2_with fail
              go_roundw
              case rel => exact ⟨j + 1, i1 + 1, Lib.hid (by rw [HI.out]), by omega, by go_num, by rw [HM.out], drw_trans HWR.out ⟨_, rfl⟩⟩
              case measure => simp [intOf]; omega
            · have hle : ¬ (ra : Int) ≤ (rb : Int) := by have := o2 he; omega
              clear o2
              go_quiet (fail)
              go_wp2_with fail
              go_roundw
              case rel => exact ⟨j + 1, i1 + 1, Lib.hid (by rw [HI.out]), by omega, by go_num, by rw [HM.out], drw_trans HWR.out ⟨_, rfl⟩⟩
              case measure => simp [intOf]; omega
          · as_aux_lemma =>
            have hke : i1 = k + 1 := by omega
            have hjk : xs.length - 1 = j := by rw [HX.out]; omega
            rw [hjk] at j3 q4 q5 q6
            clear hjk
            have hvs := fun (W : World) => run_convert_float_float (P := Try.prog) W 25 35 .f32 .f64 (spanF xs) _ (by rw [Try.und25]; rfl) Try.und35 j1
            have hvg := fun (W : World) => run_convert_float_float (P := Try.prog) W 25 35 .f32 .f64 (growF xs) _ (by rw [Try.und25]; rfl) Try.und35 q3
            have ga := run_num (P := Try.prog) j2
            have gm := run_num (P := Try.prog) q4
            have gb := run_num (P := Try.prog) q5
            obtain ⟨w8, hw8⟩ : ∃ w8, w8 = wr := ⟨_, rfl⟩
            rw [← hw8] at HWR ⊢
            have B8 : Hid (Below w.heap.size w w8) := Lib.hid (below_drw B7.out HWR.out)
            have HR8 := Lib.hid (fun W (h : W = w8) => r8List_any A n c bs W HB.out hn hn48 (by subst h; exact (Hr.out.below B8.out).more B8.out.size))
            clear hw8 HWR R17 R7 B7 j1 j2 q3 q4 q5
            go_wp2_with fail
            refine (HR8.out _ rfl).mono ?_
            rintro e w9 ⟨⟨A9, c9, zs, rfl, hz8, hzb, ho9⟩, hb9⟩
            have B9 := Lib.hid (bthen B8.out hb9)
            obtain ⟨A9', c9', hA9, hr9⟩ := shapeOf ho9
            cases hA9
            have R9 : Hid (Rd w9 w9.heap.size A9 ((zs.map qF).map (Value.float .f32))) := Lib.hid (by rw [List.map_map]; exact hr9)
            have HZ8 := Lib.hid hz8
            have HZB := Lib.hid hzb
            have HROS := Lib.hid (ros_law hz8 hzb)
            have hq8 : (zs.map qF).length = 8 := by rw [List.length_map, hz8]
            have ht8 : (zs.map twF).length = 8 := by rw [List.length_map, hz8]
            have HC9 := Lib.hid (rangeOverSpread_any A9 8 c9 (zs.map qF) w9 hq8 (by omega) R9.out)
            clear hz8 hzb ho9 hb9 hr9 B8 HR8 hvs hvg ga gm gb q6 j3 hq8
            go_wp2_with fail
            refine HC9.out.mono ?_
            rintro e w10 ⟨rfl, hb10⟩
            have B10 := Lib.hid (bthen B9.out hb10)
            have R10 := Lib.hid (R9.out.next hb10)
            have HN10 := Lib.hid (own_nilF w10 25 w10.heap.size (Nat.le_refl _))
            clear hb10 B9 R9 HC9
            obtain ⟨i0, hi, hz0, hz1, hz2⟩ := info_parts Try.info25
            go_wp2_with fail
            go_loopw [29, 30] (fun v i wr => ∃ (q : Nat) (ls : List Nat), q ≤ 8 ∧ i = .int .i64 q ∧ Hid (ls.length = q) ∧ Hid (ls = (zs.take q).map twF) ∧ wr.ownsRow w10.heap.size 25 1 v ls.length (ls.map (Value.float .f32)) ∧ Below w10.heap.size w10 wr) (fun _ i _ => 8 - (intOf i).toNat)
            case atStart => exact ⟨0, [], by omega, rfl, Lib.hid rfl, Lib.hid rfl, HN10.out, below_new _ _⟩
            case round =>
              obtain ⟨q, ls, hq, rfl, HLL, HLS, hv, hbq⟩ := hrel
              have HV := Lib.hid hv
              have HBQ := Lib.hid hbq
              have hwz := hbq.size
              clear hv hbq
              obtain ⟨Av, cv, rfl, hrv⟩ := shapeOf HV.out
              clear hrv
              by_cases hq8 : q < 8
              · as_aux_lemma =>
                have hqz : q < zs.length := by rw [HZ8.out]; exact hq8
                obtain ⟨ad, rfl, _, hcq⟩ := ((R10.out.below HBQ.out).more hwz).at_ (k := q) (by rw [List.length_map, List.length_map]; exact hqz)
                rw [List.getElem_map, List.getElem_map] at hcq
                have hzq := HZB.out _ (List.getElem_mem hqz)
                obtain ⟨_, m1, m2, _⟩ := q_fx hzq.1 hzq.2
                have g1 := run_num (P := Try.prog) m1
                have g2 := run_num (P := Try.prog) m2
                have HS : Hid (ls ++ [twF zs[q]] = (zs.take (q + 1)).map twF) := Lib.hid (by rw [List.take_succ_eq_append_getElem hqz, List.map_append, HLS.out]; rfl)
                have hl2 : ls.length ≤ 8 := by rw [HLL.out]; omega
                obtain ⟨x, hx⟩ : ∃ x, x = qF zs[q] := ⟨_, rfl⟩
                obtain ⟨y, hy⟩ : ∃ y, y = twF zs[q] := ⟨_, rfl⟩
                rw [← hx] at hcq g1 g2
                rw [← hy] at HS g2
                clear hx hy m1 m2 hzq
                go_wp2_with (at_builtin; go_must (refine wpList_append_own_at _ rfl (.tmp 262) (.tmp 269) 26 rfl w10.heap.size 25 i0 (.float .f32 0) 1 4 Try.underlying26 hi hz0 hz1 hz2 rfl (by decide) _ _ _ rfl (HV.out.alloc _) ⟨wr.heap.size, 0, none⟩ 1 1 [.float .f32 y] rfl rfl (newOne wr _ 25) (oneF _ _) ?_ ?_ ?_ ?_))
                · unfold maxLen; omega
                · omega
                · simp; omega
                intro v' w11 hown' hgrow _ hat'
                have HV7 := Lib.hid (own_appF hown')
                have HB7 := Lib.hid ((HBQ.out.alloc hwz (.cells #[.float .f32 y] 25)).grown hgrow (by simp; omega) (fun q hq => (HV.out.lt q hq).1))
                have HL7 : Hid ((ls ++ [y]).length = q + 1) := Lib.hid (by rw [List.length_append, HLL.out]; rfl)
                clear hown' hgrow hat'
                go_wp2_with fail
                go_roundw
                case rel => exact ⟨q + 1, ls ++ [y], by omega, by go_num, HL7, HS, HV7.out, HB7.out⟩
                case measure => simp [intOf]; omega
              · as_aux_lemma =>
                obtain rfl : q = 8 := by omega
                have els : ls = zs.map twF := by rw [HLS.out, List.take_of_length_le (by rw [HZ8.out]; exact Nat.le_refl _)]
                have HTL := Lib.hid HLL.out
                rw [HLL.out, els] at HV
                rw [HLL.out]
                obtain ⟨w11, hw11⟩ : ∃ w11, w11 = wr := ⟨_, rfl⟩
                rw [← hw11] at HV HBQ ⊢
                have R11 := Lib.hid (Rd.own HV.out)
                have B11 := Lib.hid (bthen B10.out HBQ.out)
                have HC11 := Lib.hid (rangeOverSpread_any Av 8 cv (zs.map twF) w11 ht8 (by omega) R11.out)
                rw [HROS.out.1, HROS.out.2.1] at HC11
                clear hw11 hwz HV HBQ B10 R10 hq els HLL HLS HTL
                go_wp2_with fail
                refine HC11.out.mono ?_
                rintro e w12 ⟨rfl, hb12⟩
                have B12 := Lib.hid (bthen B11.out hb12)
                have hro := HROS.out.2.2
                clear hb12 B11 R11 HC11 HN10 HROS
                go_upto_region 38 with fail
                go_cut [27, 28, 31, 32, 297] (fun _ _ _ _ v wx => v = .bool false ∧ wx = w12)
                case first =>
                  as_aux_lemma =>
                  cases hrb : rosB (zs.map qF)
                  · rw [hrb] at hro
                    go_wp2_with fail
                    go_meet
                    case rel => exact ⟨rfl, rfl⟩
                  · obtain ⟨y1, y2, y3⟩ := hro hrb
                    have RA := ratio_at y1 y2 y3
                    obtain ⟨rr, hrr⟩ : ∃ rr, rr = rosR (zs.map qF) := ⟨_, rfl⟩
                    rw [← hrr] at RA ⊢
                    have hvr := fun (W : World) => run_convert_float_float (P := Try.prog) W 25 35 .f32 .f64 rr _ (by rw [Try.und25]; rfl) Try.und35 RA.cv
                    have ga := run_num (P := Try.prog) RA.ad
                    have gm := run_num (P := Try.prog) RA.ml
                    have hle := RA.le
                    have hgt := RA.gt
                    have HGP := Lib.hid (fun W => r8Gap_any (wid rr) (wid rr) W RA.is RA.is RA.gp RA.gp)
                    clear hro y1 y2 y3 RA hrr hrb
                    go_wp2_with fail
                    refine (HGP.out _).mono ?_
                    rintro e wz ⟨rfl, hwz⟩
                    rw [hwz]
                    clear hwz wz
                    go_wp2_with fail
                    go_meet
                    case rel => exact ⟨rfl, rfl⟩
                case rest =>
                obtain ⟨rfl, hwc⟩ := hcut
                rw [hwc]
                clear hwc hro ht8
                have HN12 := Lib.hid (own_nilF w12 25 w12.heap.size (Nat.le_refl _))
                go_wp2_with fail
                go_loopw [33, 34] (fun v i wr => ∃ (q : Nat) (ts : List Nat), q ≤ 6 ∧ i = .int .i64 q ∧ Hid (ts.length = q) ∧ Hid (∀ t ∈ ts, 1 ≤ t ∧ t ≤ 32) ∧ wr.ownsRow w12.heap.size 25 1 v (ts.map wz).length ((ts.map wz).map (Value.float .f32)) ∧ Below w12.heap.size w12 wr) (fun _ i _ => 6 - (intOf i).toNat)
                case atStart => exact ⟨0, [], by omega, rfl, Lib.hid rfl, Lib.hid (fun t ht => by cases ht), HN12.out, below_new _ _⟩
                case round =>
                  obtain ⟨q, ts, hq, rfl, HLL, HTB, hv, hbq⟩ := hrel
                  have HV := Lib.hid hv
                  have HBQ := Lib.hid hbq
                  have hwz := hbq.size
                  clear hv hbq
                  obtain ⟨Aw, cw, rfl, hrv⟩ := shapeOf HV.out
                  clear hrv
                  by_cases hq6 : q < 6
                  · as_aux_lemma =>
                    have HAT := Lib.hid (fun W (h : W = wr) => r8At_any B m d ms (10 + (q : Int)) 32 W HMB.out hm hm48 (by omega) (by omega) (by omega) (by subst h; exact (Hr2.out.below (bthen B12.out HBQ.out)).more (bthen B12.out HBQ.out).size))
                    have hq6' : (q : Int) < 6 := by omega
                    go_wp2_with fail
                    refine (HAT.out _ rfl).mono ?_
                    rintro e wy ⟨⟨z, rfl, z1, z2⟩, hwy⟩
                    rw [hwy]
                    clear hwy wy HAT
                    obtain ⟨t, ht⟩ : ∃ t : Nat, 1 + z = (t : Int) := ⟨(1 + z).toNat, by omega⟩
                    have hwt : floatOfInt .f32 (1 + z) = wz t := by rw [ht]; rfl
                    have hl2 : (ts.map wz).length ≤ 6 := by rw [List.length_map, HLL.out]; exact hq
                    obtain ⟨ls, hls⟩ : ∃ ls, ls = ts.map wz := ⟨_, rfl⟩
                    rw [← hls] at HV hl2 ⊢
                    have HLS := Lib.hid hls
                    clear hls
                    go_wp2_with (at_builtin; go_must (refine wpList_append_own_at _ rfl (.tmp 303) (.tmp 310) 26 rfl w12.heap.size 25 i0 (.float .f32 0) 1 4 Try.underlying26 hi hz0 hz1 hz2 rfl (by decide) _ _ _ rfl (HV.out.alloc _) ⟨wr.heap.size, 0, none⟩ 1 1 [.float .f32 (wz t)] rfl rfl (newOne wr _ 25) (oneF _ _) ?_ ?_ ?_ ?_))
                    · unfold maxLen; omega
                    · omega
                    · simp; omega
                    intro v' w13 hown' hgrow _ hat'
                    have HV7 : Hid (w13.ownsRow w12.heap.size 25 1 v' ((ts ++ [t]).map wz).length (((ts ++ [t]).map wz).map (Value.float .f32))) := Lib.hid (by
                      have h := own_appF hown'
                      rw [List.map_append, ← HLS.out]
                      exact h)
                    have HB7 := Lib.hid ((HBQ.out.alloc hwz (.cells #[.float .f32 (wz t)] 25)).grown hgrow (by simp; omega) (fun q hq => (HV.out.lt q hq).1))
                    have HL7 : Hid ((ts ++ [t]).length = q + 1) := Lib.hid (by rw [List.length_append, HLL.out]; rfl)
                    have HT7 : Hid (∀ y ∈ ts ++ [t], 1 ≤ y ∧ y ≤ 32) := Lib.hid (fun y hy => by
                      rcases List.mem_append.1 hy with hy | hy
                      · exact HTB.out y hy
                      · simp at hy; omega)
                    clear hown' hgrow hat' hwt
                    go_wp2_with fail
                    go_roundw
                    case rel => exact ⟨q + 1, ts ++ [t], by omega, by go_num, HL7, HT7, HV7.out, HB7.out⟩
                    case measure => simp [intOf]; omega
                  · as_aux_lemma =>
                    obtain rfl : q = 6 := by omega
                    have S : Six ts := ⟨HLL.out, HTB.out⟩
                    obtain ⟨t1, t2⟩ := tail_law S
                    have hl6 : (ts.map wz).length = 6 := by rw [List.length_map, HLL.out]
                    obtain ⟨ys, hys⟩ : ∃ ys, ys = ts.map wz := ⟨_, rfl⟩
                    have hyi : ∀ i, i < ys.length → Is .f32 (ys.getD i 0) := fun i hi => by rw [hys] at hi ⊢; exact S.is _ (getD_mem hi)
                    rw [← hys] at HV hl6 t1 t2 ⊢
                    rw [hl6] at HV ⊢
                    obtain ⟨w13, hw13⟩ : ∃ w13, w13 = wr := ⟨_, rfl⟩
                    rw [← hw13] at HV HBQ ⊢
                    have R13 := Lib.hid (Rd.own HV.out)
                    have B13 := Lib.hid (bthen B12.out HBQ.out)
                    have HTS := Lib.hid (tailSlope_any Aw 6 cw ys 5 w13 hl6 (by omega) R13.out (by omega))
                    have HYI := Lib.hid hyi
                    have HL6 := Lib.hid hl6
                    clear hw13 hwz HV HBQ hq hys hyi S hq6 hl6
                    go_wp2_with fail
                    refine HTS.out.mono ?_
                    rintro e w14 ⟨rfl, hb14⟩
                    have B14 := Lib.hid (bthen B13.out hb14)
                    have R14 := Lib.hid (R13.out.next hb14)
                    clear hb14 B13 R13 HTS
                    have hl6 := HL6.out
                    obtain ⟨ay, rfl, _, hc0⟩ := R14.out.at_ (k := 0) (by rw [List.length_map]; omega)
                    have ego : ∀ (l : List Nat) (i : Nat) (h : i < l.length), l[i] = l.getD i 0 := fun l i h => by simp [List.getD, List.getElem?_eq_getElem h]
                    rw [List.getElem_map, ego] at hc0
                    have hc0' : w14.cell? ay = some (.float .f32 (ys.getD 0 0)) := by simpa [Addr.add] using hc0
                    clear hl6
                    go_wp2_with fail
                    go_loop [37, 38, 39] (fun a b i => ∃ j i1 : Nat, Hid (i1 = j + 1) ∧ i1 ≤ 6 ∧ i = .int .i64 i1 ∧ a = .float .f32 (minL ys j) ∧ b = .float .f32 (maxL ys j)) (fun _ _ i => 6 - (intOf i).toNat)
                    case atStart => exact ⟨0, 1, Lib.hid rfl, by omega, rfl, rfl, rfl⟩
                    case round =>
                      obtain ⟨j, i1, HI, hi1, rfl, rfl, rfl⟩ := hrel
                      have hij := HI.out
                      have hl6 := HL6.out
                      by_cases hi6 : i1 < 6
                      · as_aux_lemma =>
                        obtain ⟨ad, had, _, hc1⟩ := R14.out.at_ (k := i1) (by rw [List.length_map]; omega)
                        obtain rfl : ay = ad := Option.some.inj had
                        have e2 : ys.getD i1 0 = ys.getD (j + 1) 0 := by rw [hij]
                        rw [List.getElem_map, ego, e2] at hc1
                        have a1 := (min_v HYI.out j (by omega)).1
                        have b1 := (max_v HYI.out j (by omega)).1
                        have y1 := HYI.out (j + 1) (by omega)
                        have hmn := run_min_f (P := Try.prog) a1 y1
                        have hmx := run_max_f (P := Try.prog) b1 y1
                        have HA : Hid (minL ys (j + 1) = fmin .f32 (minL ys j) (ys.getD (j + 1) 0)) := Lib.hid rfl
                        have HB' : Hid (maxL ys (j + 1) = fmax .f32 (maxL ys j) (ys.getD (j + 1) 0)) := Lib.hid rfl
                        obtain ⟨y, hy⟩ : ∃ y, y = ys.getD (j + 1) 0 := ⟨_, rfl⟩
                        rw [← hy] at hc1 hmn hmx HA HB'
                        have hi6' : (i1 : Int) < 6 := by omega
                        clear hy e2 a1 b1 y1 had hij hl6 ego hc0 hc0'
                        go_wp2_with fail
                        go_round
                        case rel => exact ⟨j + 1, i1 + 1, Lib.hid (by rw [HI.out]), by omega, by go_num, by rw [HA.out], by rw [HB'.out]⟩
                        case measure => simp [intOf]; omega
                      · as_aux_lemma =>
                        obtain rfl : i1 = 6 := by omega
                        obtain rfl : j = 5 := by omega
                        clear hc0 hc0' ego
                        cases hbb : tailB ys 5
                        · rw [hbb] at t1
                          have ho := t1.symm
                          clear t1 t2
                          go_wp2
                          go_ret
                          exact ⟨rfl, B14.out⟩
                        · have hg := t2 hbb
                          rw [hbb] at t1
                          have ho := t1.symm
                          clear t1 t2
                          go_wp2
                          go_ret
                          exact ⟨rfl, B14.out⟩
end Go.Proofs.Ytbojlgbkkdnegaa
