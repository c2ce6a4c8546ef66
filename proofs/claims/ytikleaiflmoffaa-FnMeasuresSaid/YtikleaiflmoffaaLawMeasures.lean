/- The law FnMeasures answers true, whatever the bytes. -/
import Derived.Test.YtikleaiflmoffaaPld
import Derived.Test.YtikleaiflmoffaaDrw
import Derived.BigQuiet
import Derived.Laws.ComplexArith
import Derived.Deep.DeepCutAuto
namespace Go.Proofs.Ytikleaiflmoffaa
open Ieee Go.RowKit
theorem sizes_all : ((List.range 9).all fun s => decide (s < 1) || ((floatBits .quo .f32 (floatOfInt .f32 (s : Int)) 1082130432 == some (fx (s : Int) 2)) && ((floatBits .quo .f32 (fx (s : Int) 2) 1073741824 == some (fx (s : Int) 3)) && (floatBits .mul .f32 (fx (s : Int) 2) 1073741824 == some (fx (s : Int) 1))))) = true := by decide +kernel
theorem sizes_ok {s : Nat} (h1 : 1 ≤ s) (h2 : s ≤ 8) : floatBits .quo .f32 (floatOfInt .f32 (s : Int)) 1082130432 = some (fx (s : Int) 2) ∧ floatBits .quo .f32 (fx (s : Int) 2) 1073741824 = some (fx (s : Int) 3) ∧ floatBits .mul .f32 (fx (s : Int) 2) 1073741824 = some (fx (s : Int) 1) := by
  have h := all_lt sizes_all (j := s) (by omega)
  rw [decide_eq_false (show ¬ s < 1 by omega), Bool.false_or] at h
  simpa using h
theorem own_twoF (w : World) (t : TypeId) (x y B : Nat) (hB : B ≤ w.heap.size) : (w.alloc (.cells #[.float .f32 x, .float .f32 y] t)).ownsRow B t 1 (.slice (some ⟨w.heap.size, 0, none⟩) 2 2) 2 [.float .f32 x, .float .f32 y] :=
  ⟨rfl, .inr ⟨w.heap.size, 2, _, rfl, hB, heap_alloc_new w _, Nat.le_refl _, by unfold maxLen; omega, rfl, by simp⟩⟩
theorem sz2 {s : Nat} (h1 : 1 ≤ s) (h2 : s ≤ 8) : Sz (fx (s : Int) 2) (2 * (s : Int)) := by
  obtain ⟨_, _, a, b, _⟩ := size_v h1 h2 (k := 2) (by omega)
  exact ⟨a, b, fun x hx1 hx2 => bx2 h1 h2 hx1 hx2⟩
theorem sz3 {s : Nat} (h1 : 1 ≤ s) (h2 : s ≤ 8) : Sz (fx (s : Int) 3) (s : Int) := by
  obtain ⟨_, _, a, b, _⟩ := size_v h1 h2 (k := 3) (by omega)
  exact ⟨a, b, fun x hx1 hx2 => bx3 h1 h2 hx1 hx2⟩
theorem sum_pre {C : List Int} (h : ∀ c ∈ C, 1 ≤ c) (k : Nat) : 0 ≤ (C.take k).sum ∧ (C.take k).sum ≤ C.sum := by
  induction C generalizing k with
  | nil => simp
  | cons c C ih =>
    have hc := h c List.mem_cons_self
    have i := ih (fun x hx => h x (List.mem_cons_of_mem _ hx))
    cases k with
    | zero =>
      have := i C.length
      rw [List.take_length] at this
      simp
      omega
    | succ k =>
      have := i k
      rw [List.take_succ_cons, List.sum_cons, List.sum_cons]
      omega
theorem one_is : Is .f32 1065353216 ∧ vl .f32 1065353216 = 1 := ⟨⟨_, _, _, rfl⟩, by decide +kernel⟩
theorem pts_first {P : List (Int × Int)} {m : Nat} (hP : Pts P (m + 1)) : Pts [P.getD 0 (0, 0)] 1 := ⟨rfl, fun p hp => by
  have h0 := (getD_pt hP (k := 0) (by omega)).1
  simp at hp; rw [hp]; simpa using h0⟩
theorem rd_first {w : World} {B : Nat} {A : Option Addr} {P : List (Int × Int)} (h : Rd w B A (P.map cvP)) (hl : 0 < P.length) : Rd w B A ([P.getD 0 (0, 0)].map cvP) := by
  obtain ⟨ad, had, hb, hc⟩ := h.at_ (k := 0) (by simpa using hl)
  refine .inr ⟨ad, had, hb, fun j u hu => ?_⟩
  cases j with
  | zero =>
    rw [hc]
    simpa [List.getD, List.getElem?_eq_getElem hl] using hu
  | succ j => simp at hu
theorem sub_bits {p q : Int × Int} (hp : Pt p) (hq : Pt q) : cSumBits .sub .f32 (eZ p.1) (eZ p.2) (eZ q.1) (eZ q.2) = some (eZ (p.1 - q.1), eZ (p.2 - q.2)) := by
  unfold Pt at hp hq
  have h1 : floatBits .sub .f32 (eZ p.1) (eZ q.1) = some (eZ (p.1 - q.1)) := fx_sub (by omega) (by omega) (by omega)
  have h2 : floatBits .sub .f32 (eZ p.2) (eZ q.2) = some (eZ (p.2 - q.2)) := fx_sub (by omega) (by omega) (by omega)
  unfold cSumBits
  rw [h1, h2]
  rfl
theorem far_fold_nn {p0 : Int × Int} (h0 : Pt p0) : ∀ (P : List (Int × Int)) (o : Nat), (∀ p ∈ P, Pt p) → NN o → NN (P.foldl (fun o z => fmax .f32 o (farF z p0)) o) := by
  intro P
  induction P with
  | nil => intro o _ ho; exact ho
  | cons z P ih =>
    intro o h ho
    exact ih _ (fun q hq => h q (List.mem_cons_of_mem _ hq)) (fmax_nn ho (far_nn (h z List.mem_cons_self) h0))
set_option maxHeartbeats 40000000 in
set_option maxRecDepth 100000 in
theorem lawMeasures (A B : Option Addr) (n c m d : Nat) (bs ms : List Int) (w : World) (hb : ByteL bs) (hmb : ByteL ms) (hn : bs.length = n) (hm : ms.length = m) (hn2 : n ≤ 9223372036854775807) (hm2 : m ≤ 9223372036854775807)
    (hr : Rd w w.heap.size A (bs.map (Value.int .u8))) (hr2 : Rd w w.heap.size B (ms.map (Value.int .u8))) :
    Calls Try.prog 3 #[.slice A n c, .slice B m d] w fun e w' => e = .returned (.bool true) ∧ Below w.heap.size w w' := by
  have HL := Lib.hid (fun W => r8Long_any A B n c m d W hn2 hm2)
  by_cases hlong : (decide (48 < n) || decide (48 < m)) = true
  · rw [hlong] at HL
    clear hr hr2
    go_enter Try.func3, Try.ntmps3
    go_wp2_with fail
    refine (HL.out _).mono ?_
    rintro e w' ⟨rfl, rfl⟩
    go_wp2
    go_ret
    exact ⟨rfl, Below.refl _ _⟩
  · have hlong' : (decide (48 < n) || decide (48 < m)) = false := by simpa using hlong
    rw [hlong'] at HL
    have hn48 : n ≤ 48 := by simp at hlong; omega
    have hm48 : m ≤ 48 := by simp at hlong; omega
    have Hr := Lib.hid hr
    have Hr2 := Lib.hid hr2
    have HB := Lib.hid hb
    have HMB := Lib.hid hmb
    have hcv := fun (z : Int) (W : World) => run_convert_int_float (P := Try.prog) W 2 27 .i64 .f32 z (by rw [Try.underlying2]; rfl) Try.und27
    clear hr hr2 hb hmb hlong hlong'
    go_enter Try.func3, Try.ntmps3
    go_wp2_with fail
    refine (HL.out _).mono ?_
    rintro e w' ⟨rfl, hw⟩
    rw [hw]
    clear hw w' HL
    go_wp2_with fail
    refine (r8At_any B m d ms 40 12 w HMB.out hm hm48 (by omega) (by omega) (by omega) Hr2.out).mono ?_
    rintro e w' ⟨⟨z0, rfl, z01, z02⟩, hw⟩
    rw [hw]
    clear hw w'
    obtain ⟨M, hM⟩ : ∃ M : Nat, 1 + z0 = (M : Int) + 1 := ⟨z0.toNat, by omega⟩
    have M11 : M ≤ 11 := by omega
    have HPT := Lib.hid (r8Points_any A n c (M + 1) bs w HB.out hn hn48 (by omega) (by omega) Hr.out : Calls Try.prog 6 #[.slice A n c, .int .i64 ((M : Int) + 1)] w _)
    go_wp2_with fail
    refine HPT.out.mono ?_
    rintro e w1 ⟨⟨g, cp, P, rfl, hP, hcap, ho1⟩, hb1⟩
    have B1 := Lib.hid hb1
    have R1 : Hid (Rd w1 w1.heap.size (some ⟨g, 0, none⟩) (P.map cvP)) := Lib.hid (Rd.own ho1)
    have HP := Lib.hid hP
    have hcap2 : M + 1 ≤ cp := hcap
    have HAT := Lib.hid (fun W (h : W = w1) => r8At_any B m d ms 0 8 W HMB.out hm hm48 (by omega) (by omega) (by omega) (by subst h; exact (Hr2.out.below B1.out).more B1.out.size))
    clear hb1 ho1 hP hcap HPT hM z01 z02
    go_wp2_with fail
    refine (HAT.out _ rfl).mono ?_
    rintro e w' ⟨⟨z1, rfl, z11, z12⟩, hw⟩
    rw [hw]
    clear hw w' HAT
    obtain ⟨S, hS⟩ : ∃ S : Nat, 1 + z1 = (S : Int) := ⟨(1 + z1).toNat, by omega⟩
    have S1 : 1 ≤ S := by omega
    have S8 : S ≤ 8 := by omega
    obtain ⟨q1, q2, q3⟩ := sizes_ok S1 S8
    have V2 := size_v S1 S8 (k := 2) (by omega)
    have V1 := size_v S1 S8 (k := 1) (by omega)
    have Z2 := sz2 S1 S8
    have Z3 := sz3 S1 S8
    have HRL := Lib.hid (rul_law HP.out M11 S1 S8)
    have HRE := Lib.hid (rul_end HP.out V2.1 V2.2.1)
    have HVV : Hid (vl .f32 (fx (S : Int) 2) ≤ vl .f32 (fx (S : Int) 1)) := Lib.hid (by
      rw [(fx_v (z := (S : Int)) (k := 2) (by omega) (by omega)).2, (fx_v (z := (S : Int)) (k := 1) (by omega) (by omega)).2]
      exact mul_up' (by decide +kernel) (Rat.intCast_le_intCast.2 (show (0 : Int) ≤ (S : Int) by omega)))
    have HH := Lib.hid (nB_half (P := P) (s := (S : Int)) (by omega))
    have HQ := Lib.hid (And.intro q1 (And.intro q2 q3))
    obtain ⟨y2, hy2⟩ : ∃ y, y = fx (S : Int) 2 := ⟨_, rfl⟩
    obtain ⟨y3, hy3⟩ : ∃ y, y = fx (S : Int) 3 := ⟨_, rfl⟩
    obtain ⟨y1, hy1⟩ : ∃ y, y = fx (S : Int) 1 := ⟨_, rfl⟩
    rw [← hy2] at q1 q2 q3 V2 Z2 HRL HRE HVV
    rw [← hy3] at q2 Z3
    rw [← hy1] at q3 V1 HVV
    have gq1 := run_num (P := Try.prog) q1
    have gq2 := run_num (P := Try.prog) q2
    have gq3 := run_num (P := Try.prog) q3
    have HV2 := Lib.hid V2
    have HV1 := Lib.hid V1
    have HZ2 := Lib.hid Z2
    have HZ3 := Lib.hid Z3
    have HB2 := Lib.hid (fun W r => boxesOf_any (some ⟨g, 0, none⟩) (M + 1) cp y2 P (2 * (S : Int)) W HP.out (by omega) Z2 r)
    have HB3 := Lib.hid (fun W r => boxesOf_any (some ⟨g, 0, none⟩) (M + 1) cp y3 P (S : Int) W HP.out (by omega) Z3 r)
    have HBM := Lib.hid (fun W r => boxMasses_any (some ⟨g, 0, none⟩) (M + 1) cp y2 P (2 * (S : Int)) W HP.out (by omega) (by omega) Z2 r)
    have nb1 := nB_le P (2 * (S : Int))
    have nb2 := nB_pos (P := P) (d := 2 * (S : Int)) (by rw [HP.out.len]; omega)
    rw [HP.out.len] at nb1
    obtain ⟨nh1, nh2⟩ := HH.out
    have HNB : Hid (∀ d, nB P d = nB P d) := Lib.hid (fun _ => rfl)
    obtain ⟨b1, hb1⟩ : ∃ b, b = nB P (2 * (S : Int)) := ⟨_, rfl⟩
    obtain ⟨b2, hb2⟩ : ∃ b, b = nB P (S : Int) := ⟨_, rfl⟩
    have HE1 := Lib.hid hb1
    have HE2 := Lib.hid hb2
    rw [← hb1] at nb1 nb2 nh1 nh2 HB2 HBM
    rw [← hb2] at nh1 nh2 HB3
    clear q1 q2 q3 V2 V1 Z2 Z3 hy2 hy3 hy1 HQ hb1 hb2 HNB HH
    go_wp2_with fail
    refine (HB2.out _ R1.out).mono ?_
    rintro e w2 ⟨rfl, hbx⟩
    have B2 := Lib.hid (bthen B1.out hbx)
    have R2 := Lib.hid (R1.out.next hbx)
    clear hbx HB2 B1 R1
    go_wp2_with fail
    refine (HB3.out _ R2.out).mono ?_
    rintro e w3 ⟨rfl, hbx⟩
    have B3 := Lib.hid (bthen B2.out hbx)
    have R3 := Lib.hid (R2.out.next hbx)
    clear hbx HB3 B2 R2
    go_wp2_with fail
    refine (HBM.out _ R3.out).mono ?_
    rintro e w4 ⟨⟨g2, c2, C, rfl, hC, ho4⟩, hbx⟩
    have B4 := Lib.hid (bthen B3.out hbx)
    have R4 := Lib.hid (R3.out.next hbx)
    have RC4 := Lib.hid (Rd.own ho4)
    have HC := Lib.hid hC
    have hb5 := below_new w4 (.cells #[.float .f32 y2, .float .f32 y3] 27)
    have B5 := Lib.hid (bthen B4.out hb5)
    have R5 := Lib.hid (R4.out.next hb5)
    have RC5 := Lib.hid (RC4.out.next hb5)
    have RY := Lib.hid (Rd.own (own_twoF w4 27 y2 y3 w4.heap.size (Nat.le_refl _)))
    have HBS := Lib.hid (fun W r r' => boxesOfSizes_any (some ⟨g, 0, none⟩) (some ⟨w4.heap.size, 0, none⟩) (M + 1) cp 2 2 P [y2, y3] [2 * (S : Int), (S : Int)] W HP.out (by omega) rfl rfl (by omega) (fun i h h' => by
      rcases (show i = 0 ∨ i = 1 by simp at h; omega) with rfl | rfl
      · exact HZ2.out
      · exact HZ3.out) r r')
    clear hC ho4 hbx hb5 HBM B3 R3 RC4 B4 R4
    go_wp2_with fail
    obtain ⟨w5, hw5⟩ : ∃ x, x = w4.alloc (.cells #[.float .f32 y2, .float .f32 y3] 27) := ⟨_, rfl⟩
    rw [← hw5] at B5 R5 RC5 RY ⊢
    clear hw5
    refine (HBS.out w5 R5.out RY.out).mono ?_
    rintro e w6 ⟨⟨A6, c6, rfl, ho6⟩, hbx⟩
    have B6 := Lib.hid (bthen B5.out hbx)
    have R6 := Lib.hid (R5.out.next hbx)
    have RC6 := Lib.hid (RC5.out.next hbx)
    obtain ⟨g6, c6', hA6⟩ := shapeO (n := 1) ho6
    cases hA6
    have hx0' : w6.cell? ⟨g6, 0, none⟩ = some (.float .f32 (floatOfInt .f32 (b1 : Int))) := by
      rw [ho6.cellAt 0 (by omega), HE1.out]; rfl
    have hx1' : w6.cell? ⟨g6, 1, none⟩ = some (.float .f32 (floatOfInt .f32 (b2 : Int))) := by
      rw [ho6.cellAt 1 (by omega), HE2.out]; rfl
    have n1 : nanF .f32 (floatOfInt .f32 (b1 : Int)) = false := (fx_v (z := (b1 : Int)) (k := 0) (by omega) (by omega)).1.num
    have n2 : nanF .f32 (floatOfInt .f32 (b2 : Int)) = false := (fx_v (z := (b2 : Int)) (k := 0) (by omega) (by omega)).1.num
    have o1 : (FloatKind.f32.format.order (floatOfInt .f32 (b1 : Int)) (floatOfInt .f32 (b1 : Int)) != some .eq) = false := by
      rw [order_self n1]; rfl
    have o2 : (FloatKind.f32.format.order (floatOfInt .f32 (b2 : Int)) (floatOfInt .f32 (b2 : Int)) != some .eq) = false := by
      rw [order_self n2]; rfl
    have i1 : ¬ (b1 : Int) < 1 := by omega
    have i2 : ¬ (M : Int) + 1 < (b1 : Int) := by omega
    have i3 : ¬ (b2 : Int) < (b1 : Int) := by omega
    have i4 : ¬ 4 * (b1 : Int) < (b2 : Int) := by omega
    clear ho6 hbx HBS B5 R5 RC5 RY n1 n2
    go_wp2_with fail
    clear hx0' hx1' o1 o2 i1 i2 i3 i4
    go_loop [16, 17] (fun v i => ∃ k : Nat, k ≤ b1 ∧ i = .int .i64 k ∧ v = .int .i64 (C.take k).sum) (fun _ i => b1 - (intOf i).toNat)
    case atStart => exact ⟨0, by omega, rfl, rfl⟩
    case round =>
      obtain ⟨k, hk, rfl, rfl⟩ := hrel
      by_cases hlt : k < b1
      · as_aux_lemma =>
        have hkc : k < C.length := by rw [HC.out.len]; exact hlt
        obtain ⟨ad, had, _, hc⟩ := RC6.out.at_ (k := k) (by rw [List.length_map]; exact hkc)
        cases had
        rw [List.getElem_map, addr_z] at hc
        have hs : (C.take (k + 1)).sum = (C.take k).sum + C[k] := by
          rw [List.take_succ_eq_append_getElem hkc, List.sum_append]; simp
        have hpos := HC.out.pos _ (List.getElem_mem hkc)
        have hle := le_sum HC.out.pos hkc
        have hsum := HC.out.sum
        have hpre : 0 ≤ (C.take k).sum ∧ (C.take k).sum ≤ C.sum := sum_pre HC.out.pos k
        have hwr : IntKind.i64.wrap ((C.take k).sum + C[k]) = (C.take k).sum + C[k] := by rw [IntKind.wrap_i64]; omega
        have HSS := Lib.hid hs
        obtain ⟨x, hx⟩ : ∃ x, x = C[k] := ⟨_, rfl⟩
        rw [← hx] at hc hpos hwr HSS
        have hx1 : ¬ x < 1 := by omega
        have hkb : (k : Int) < (b1 : Int) := by omega
        clear hx hs hle hsum hpre hpos hkc
        go_wp2_with fail
        go_round
        case rel => exact ⟨k + 1, by omega, by go_num, by rw [HSS.out]⟩
        case measure => simp [intOf]; omega
      · as_aux_lemma =>
        obtain rfl : k = b1 := by omega
        have hsum : (C.take k).sum = (M : Int) + 1 := by
          rw [List.take_of_length_le (by rw [HC.out.len]; exact Nat.le_refl _), HC.out.sum]; rfl
        rw [hsum]
        clear hsum HC RC6
        have HRC := Lib.hid (fun W r => rulerCount_any g M cp y2 P W HP.out (by omega) hcap2 HV2.out.2.2.1 HV2.out.2.2.2.1 r)
        have HRG := Lib.hid (fun W r => rulerLong_any g M cp y2 P W HP.out (by omega) hcap2 HV2.out.2.2.1 HV2.out.2.2.2.1 r HRL.out.mul HRL.out.add HRL.out.is.fin)
        obtain ⟨l1, _, _, _, _, _, l7⟩ := len_v HP.out M11 M (Nat.le_refl _)
        have HLL := Lib.hid (fun W r => longOfLine_any (some ⟨g, 0, none⟩) M cp P W HP.out (by omega) l7 l1.fin r)
        obtain ⟨_, t2, _, t4, t5, t6, _⟩ := HRE.out
        have x1 : (FloatKind.f32.format.order (rest P y2) 0 == some .lt) = false := by
          rw [(order_v t5 zero_is.1).1, zero_is.2]; exact decide_eq_false (by grind)
        have x2 : (FloatKind.f32.format.order (rest P y2) y2 == some .gt || FloatKind.f32.format.order (rest P y2) y2 == some .eq) = false := by
          have h := geF_v t5 HV2.out.1
          unfold geF at h
          rw [h]; exact decide_eq_false (by grind)
        have v1 := (wid_v HRL.out.is).1
        have v2 := (wid_v HRL.out.isl).1
        have hvW := fun (W : World) => run_convert_float_float (P := Try.prog) W 27 41 .f32 .f64 (rlL P y2) _ (by rw [Try.und27]; rfl) Try.und41 v1
        have hvL := fun (W : World) => run_convert_float_float (P := Try.prog) W 27 41 .f32 .f64 (lenF P M) _ (by rw [Try.und27]; rfl) Try.und41 v2
        have gs := run_num (P := Try.prog) HRL.out.sum
        have og := HRL.out.gt
        obtain ⟨sm, hsm⟩ : ∃ x, x = fop .add .f64 (wid (lenF P M)) cMl := ⟨_, rfl⟩
        rw [← hsm] at gs og
        unfold cMl at gs
        obtain ⟨st, hst⟩ : ∃ x, x = (rul P y2).2 := ⟨_, rfl⟩
        obtain ⟨re, hre⟩ : ∃ x, x = rest P y2 := ⟨_, rfl⟩
        obtain ⟨rl, hrl⟩ : ∃ x, x = rlL P y2 := ⟨_, rfl⟩
        obtain ⟨le, hle⟩ : ∃ x, x = lenF P M := ⟨_, rfl⟩
        rw [← hst] at t2
        rw [← hst, ← hre] at HRC
        rw [← hre] at x1 x2
        rw [← hrl] at HRG hvW og
        rw [← hle] at HLL hvL gs
        have j1 : ¬ (st : Int) < 0 := by omega
        have j2 : ¬ (M : Int) + 1 ≤ (st : Int) := by omega
        clear l1 l7 t4 t5 t6 v1 v2 hsm hst hre hrl hle HRE HRL
        go_wp2_with fail
        refine (HRC.out w6 R6.out).mono ?_
        rintro e w7 ⟨rfl, hbx⟩
        have B7 := Lib.hid (bthen B6.out hbx)
        have R7 := Lib.hid (R6.out.next hbx)
        clear hbx HRC B6 R6
        go_wp2_with fail
        refine (HRG.out w7 R7.out).mono ?_
        rintro e w8 ⟨rfl, hbx⟩
        have B8 := Lib.hid (bthen B7.out hbx)
        have R8 := Lib.hid (R7.out.next hbx)
        clear hbx HRG B7 R7
        go_wp2_with fail
        refine (HLL.out w8 R8.out).mono ?_
        rintro e w9 ⟨rfl, hbx⟩
        have B9 := Lib.hid (bthen B8.out hbx)
        have R9 := Lib.hid (R8.out.next hbx)
        clear hbx HLL B8 R8
        obtain ⟨gp0, gk0, ge0⟩ := getD_pt HP.out (k := 0) (by omega)
        have HG0 := Lib.hid gp0
        have hcell : ∀ W, Rd W W.heap.size (some ⟨g, 0, none⟩) (P.map cvP) → W.cell? ⟨g, 0, none⟩ = some (cvP (P.getD 0 (0, 0))) := fun W r => by
          obtain ⟨ad, had, hc⟩ := pts_cell r gk0
          cases had
          rw [ge0] at hc
          exact cell_zero hc
        have HCELL := Lib.hid hcell
        have is100 : Is .f32 1120403456 := ⟨_, _, _, rfl⟩
        have v100 : 6 ≤ vl .f32 1120403456 := by decide +kernel
        have g100 : geF 1120403456 0 = true := by decide +kernel
        have HM2 := Lib.hid (fun W r => massIn_any (some ⟨g, 0, none⟩) (M + 1) cp y2 P (P.getD 0 (0, 0)) W HP.out (by omega) HG0.out HV2.out.2.2.1 HV2.out.2.2.2.2 r)
        have HM1 := Lib.hid (fun W r => massIn_any (some ⟨g, 0, none⟩) (M + 1) cp y1 P (P.getD 0 (0, 0)) W HP.out (by omega) HG0.out HV1.out.2.2.1 HV1.out.2.2.2.2 r)
        have HM0 := Lib.hid (fun W r => massIn_any (some ⟨g, 0, none⟩) (M + 1) cp 1120403456 P (P.getD 0 (0, 0)) W HP.out (by omega) HG0.out is100.fin g100 r)
        rw [mass_all HP.out HG0.out is100 v100] at HM0
        have ma1 := mass_pos (P := P) (q := P.getD 0 (0, 0)) (by rw [← ge0]; exact List.getElem_mem gk0) HV2.out.1 (Rat.le_of_lt HV2.out.2.1)
        have ma2 := mass_mono HP.out HG0.out HV2.out.1 HV1.out.1 HVV.out
        have HSS := Lib.hid (fun W r r' => setDistance_any (some ⟨g, 0, none⟩) (some ⟨g, 0, none⟩) (M + 1) cp (M + 1) cp P P W HP.out (by omega) (by omega) HP.out (by omega) (by omega) r r')
        obtain ⟨ss1, ss2⟩ := set_self HP.out (by omega)
        have oss : (FloatKind.f32.format.order (setF P P) 0 != some .eq) = false := by
          have h := (order_v ss1 zero_is.1).2.2
          rw [ss2, zero_is.2, decide_eq_true rfl] at h
          rw [eq_of_beq h]; rfl
        obtain ⟨a1, ha1⟩ : ∃ x, x = massN P (P.getD 0 (0, 0)) y2 := ⟨_, rfl⟩
        obtain ⟨a2, ha2⟩ : ∃ x, x = massN P (P.getD 0 (0, 0)) y1 := ⟨_, rfl⟩
        obtain ⟨sv, hsv⟩ : ∃ x, x = setF P P := ⟨_, rfl⟩
        rw [← ha1] at HM2 ma1 ma2
        rw [← ha2] at HM1 ma2
        rw [← hsv] at HSS oss
        obtain ⟨pv, hpv⟩ : ∃ v, v = cvP (P.getD 0 (0, 0)) := ⟨_, rfl⟩
        rw [← hpv] at HM2 HM1 HM0 HCELL
        have HPV := Lib.hid hpv
        have hc9 := HCELL.out w9 R9.out
        have k1 : ¬ (a1 : Int) < 1 := by omega
        have k2 : ¬ (a2 : Int) < (a1 : Int) := by omega
        clear gp0 gk0 ge0 hcell is100 v100 g100 ss1 ss2 ha1 ha2 hsv hpv
        go_wp2_with fail
        refine (HM2.out w9 R9.out).mono ?_
        rintro e w10 ⟨rfl, hbx⟩
        have B10 := Lib.hid (bthen B9.out hbx)
        have R10 := Lib.hid (R9.out.next hbx)
        have hc10 := HCELL.out w10 R10.out
        clear hbx HM2 B9 R9 hc9 hvW hvL gs og x1 x2 j1 j2
        go_wp2_with fail
        refine (HM1.out w10 R10.out).mono ?_
        rintro e w11 ⟨rfl, hbx⟩
        have B11 := Lib.hid (bthen B10.out hbx)
        have R11 := Lib.hid (R10.out.next hbx)
        have hc11 := HCELL.out w11 R11.out
        clear hbx HM1 B10 R10 hc10
        go_wp2_with fail
        refine (HM0.out w11 R11.out).mono ?_
        rintro e w12 ⟨rfl, hbx⟩
        have B12 := Lib.hid (bthen B11.out hbx)
        have R12 := Lib.hid (R11.out.next hbx)
        clear hbx HM0 B11 R11 hc11
        go_wp2_with fail
        refine (HSS.out w12 R12.out R12.out).mono ?_
        rintro e w13 ⟨rfl, hbx⟩
        have B13 := Lib.hid (bthen B12.out hbx)
        have R13 := Lib.hid (R12.out.next hbx)
        clear hbx HSS B12 R12
        by_cases hM0 : M = 0
        · as_aux_lemma =>
          have hM2 : (M : Int) + 1 < 2 := by omega
          clear hM0
          go_wp2
          go_ret
          exact ⟨rfl, B13.out⟩
        · as_aux_lemma =>
          have hM2 : ¬ (M : Int) + 1 < 2 := by omega
          have hn2 : 2 ≤ M + 1 := by omega
          have hn12 : M + 1 ≤ 12 := by omega
          have hm256 : M + 1 ≤ 256 := by omega
          have sh2 := sh_ok hn2 hn12 (prN_le P y2 (M + 1))
          have sh1 := sh_ok hn2 hn12 (prN_le P y1 (M + 1))
          have hmono := sh_mono hn2 hn12 (pr_mono HP.out HV2.out.1 HV1.out.1 HVV.out (M + 1) (Nat.le_refl _)) (prN_le P y1 (M + 1))
          have HP2 := Lib.hid (fun W r => pairShare_any (some ⟨g, 0, none⟩) (M + 1) cp y2 (shF (prN P y2 (M + 1)) (alN (M + 1))) P W HP.out hn2 hm256 hcap2 HV2.out.2.2.1 HV2.out.2.2.2.2 r sh2.quo)
          have HP1 := Lib.hid (fun W r => pairShare_any (some ⟨g, 0, none⟩) (M + 1) cp y1 (shF (prN P y1 (M + 1)) (alN (M + 1))) P W HP.out hn2 hm256 hcap2 HV1.out.2.2.1 HV1.out.2.2.2.2 r sh1.quo)
          have oe := geF_v sh2.is zero_is.1
          rw [zero_is.2, decide_eq_true sh2.ge] at oe
          have of := geF_v sh1.is sh2.is
          rw [decide_eq_true hmono] at of
          have ol := leF_v sh1.is one_is.1
          rw [one_is.2, decide_eq_true sh1.le] at ol
          unfold geF at oe of
          unfold leF at ol
          obtain ⟨v2, hv2⟩ : ∃ x, x = shF (prN P y2 (M + 1)) (alN (M + 1)) := ⟨_, rfl⟩
          obtain ⟨v1, hv1⟩ : ∃ x, x = shF (prN P y1 (M + 1)) (alN (M + 1)) := ⟨_, rfl⟩
          rw [← hv2] at HP2 oe of
          rw [← hv1] at HP1 of ol
          have hp0 : Pts [P.getD 0 (0, 0)] 1 := pts_first HP.out
          have HS1 := Lib.hid (fun W r r' => setDistance_any (some ⟨g, 0, none⟩) (some ⟨g, 0, none⟩) 1 cp (M + 1) cp [P.getD 0 (0, 0)] P W hp0 (Nat.le_refl _) (by omega) HP.out (by omega) hm256 r r')
          have HS2 := Lib.hid (fun W r r' => setDistance_any (some ⟨g, 0, none⟩) (some ⟨g, 0, none⟩) (M + 1) cp 1 cp P [P.getD 0 (0, 0)] W HP.out (by omega) hm256 hp0 (Nat.le_refl _) (by omega) r r')
          rw [set_one HP.out] at HS1
          obtain ⟨u1, u2⟩ := one_set HP.out
          have un := farMax_nn HP.out
          have og := (order_v un.1 u1).2.2
          rw [u2, decide_eq_true rfl] at og
          have on : (FloatKind.f32.format.order (farMax (P.getD 0 (0, 0)) P) (farMax (P.getD 0 (0, 0)) P) == some .eq) = true := by
            rw [(order_v un.1 un.1).2.2, decide_eq_true rfl]
          have HFM : Hid (∀ x, x = farMax (P.getD 0 (0, 0)) P → P.foldl (fun o z => fmax .f32 o (farF z (P.getD 0 (0, 0)))) 0 = x) := Lib.hid (fun x h => h.symm)
          obtain ⟨fm, hfm⟩ : ∃ x, x = farMax (P.getD 0 (0, 0)) P := ⟨_, rfl⟩
          obtain ⟨fo, hfo⟩ : ∃ x, x = setF P [P.getD 0 (0, 0)] := ⟨_, rfl⟩
          rw [← hfm] at HS1 og on
          rw [← hfo] at HS2 og
          have HFF := Lib.hid (HFM.out fm hfm)
          have hcp1 : (1 : Int) ≤ (cp : Int) := by omega
          have hcp0 : 1 ≤ cp := by omega
          clear sh2 sh1 hmono hv2 hv1 hp0 u1 u2 un hfm hfo HFM hn2 hn12 hM0
          go_wp2_with fail
          refine (HP2.out w13 R13.out).mono ?_
          rintro e w14 ⟨rfl, hbx⟩
          have B14 := Lib.hid (bthen B13.out hbx)
          have R14 := Lib.hid (R13.out.next hbx)
          clear hbx HP2 B13 R13
          go_wp2_with fail
          refine (HP1.out w14 R14.out).mono ?_
          rintro e w15 ⟨rfl, hbx⟩
          have B15 := Lib.hid (bthen B14.out hbx)
          have R15 := Lib.hid (R14.out.next hbx)
          clear hbx HP1 B14 R14
          go_wp2_with fail
          refine (HS1.out w15 (rd_first R15.out (by rw [HP.out.len]; omega)) R15.out).mono ?_
          rintro e w16 ⟨rfl, hbx⟩
          have B16 := Lib.hid (bthen B15.out hbx)
          have R16 := Lib.hid (R15.out.next hbx)
          clear hbx HS1 B15 R15
          go_wp2_with fail
          refine (HS2.out w16 R16.out (rd_first R16.out (by rw [HP.out.len]; omega))).mono ?_
          rintro e w17 ⟨rfl, hbx⟩
          have B17 := Lib.hid (bthen B16.out hbx)
          have R17 := Lib.hid (R16.out.next hbx)
          clear hbx HS2 B16 R16
          go_wp2_with fail
          go_loopw [41, 42] (fun o i wr => ∃ k : Nat, k ≤ M + 1 ∧ i = .int .i64 k ∧ o = .float .f32 ((P.take k).foldl (fun o z => fmax .f32 o (farF z (P.getD 0 (0, 0)))) 0) ∧ ∃ m, wr = w17.drewN m) (fun _ i _ => M + 1 - (intOf i).toNat)
          case atStart => exact ⟨0, Nat.zero_le _, rfl, rfl, 0, rfl⟩
          case round =>
            obtain ⟨k, hk, rfl, rfl, hwr⟩ := hrel
            have R18 := Lib.hid (rd_drw R17.out hwr)
            have HWR := Lib.hid hwr
            clear hwr
            by_cases hlt : k < M + 1
            · as_aux_lemma =>
              have hka : k < P.length := by rw [HP.out.len]; exact hlt
              obtain ⟨ad, had, hc⟩ := pts_cell R18.out hka
              cases had
              rw [addr_z] at hc
              have hc0 := HCELL.out wr (R18.out.more (Nat.le_of_eq (size_drw HWR.out).symm))
              rw [HPV.out] at hc0
              have hpt := HP.out.get hka
              have HL1 := Lib.hid (fun W => longSub_any P[k] (P.getD 0 (0, 0)) W hpt HG0.out)
              have hcs := fun (W : World) (t : TypeId) => run_complex_sum (P := Try.prog) W .sub (.inr rfl) t .f32 (eZ P[k].1) (eZ P[k].2) (eZ (P.getD 0 (0, 0)).1) (eZ (P.getD 0 (0, 0)).2) (eZ (P[k].1 - (P.getD 0 (0, 0)).1)) (eZ (P[k].2 - (P.getD 0 (0, 0)).2)) (sub_bits hpt HG0.out)
              have hmx := run_max_f (P := Try.prog) (far_fold_nn HG0.out (P.take k) 0 (take_pts HP.out k) zero_nn).1 (far_nn hpt HG0.out).1
              have HST := Lib.hid (foldC_take (g := fun o z => fmax .f32 o (farF z (P.getD 0 (0, 0)))) (b := 0) hka)
              unfold cvP at hc hc0
              obtain ⟨o0, ho0⟩ : ∃ x, x = (P.take k).foldl (fun o z => fmax .f32 o (farF z (P.getD 0 (0, 0)))) 0 := ⟨_, rfl⟩
              rw [← ho0] at HST hmx ⊢
              obtain ⟨ff, hff⟩ : ∃ x, x = farF P[k] (P.getD 0 (0, 0)) := ⟨_, rfl⟩
              rw [← hff] at HL1 hmx
              have HST2 : Hid ((P.take (k + 1)).foldl (fun o z => fmax .f32 o (farF z (P.getD 0 (0, 0)))) 0 = fmax .f32 o0 ff) := Lib.hid (by rw [HST.out, hff])
              obtain ⟨a, ha⟩ : ∃ x, x = eZ P[k].1 := ⟨_, rfl⟩
              obtain ⟨b, hb⟩ : ∃ x, x = eZ P[k].2 := ⟨_, rfl⟩
              obtain ⟨c0, hc'⟩ : ∃ x, x = eZ (P.getD 0 (0, 0)).1 := ⟨_, rfl⟩
              obtain ⟨d0, hd'⟩ : ∃ x, x = eZ (P.getD 0 (0, 0)).2 := ⟨_, rfl⟩
              obtain ⟨r, hr⟩ : ∃ x, x = eZ (P[k].1 - (P.getD 0 (0, 0)).1) := ⟨_, rfl⟩
              obtain ⟨s, hs⟩ : ∃ x, x = eZ (P[k].2 - (P.getD 0 (0, 0)).2) := ⟨_, rfl⟩
              rw [← ha, ← hb] at hc hcs
              rw [← hc', ← hd'] at hc0 hcs
              rw [← hr, ← hs] at HL1 hcs
              have hkn : (k : Int) < (M : Int) + 1 := by omega
              have hkl : k < M + 1 := hlt
              clear hka hpt HST ho0 hff ha hb hc' hd' hr hs
              go_wp2_with fail
              go_quiet ((go_at_call 16; go_must (exact Calls.quiet_of (HL1.out _))))
              go_wp2_with fail
              go_roundw
              case rel => exact ⟨k + 1, by omega, by go_num, by rw [HST2.out], drw_trans HWR.out ⟨_, rfl⟩⟩
              case measure => simp [intOf]; omega
            · as_aux_lemma =>
              obtain rfl : k = M + 1 := by omega
              rw [List.take_of_length_le (by rw [HP.out.len]; exact Nat.le_refl _), HFF.out]
              go_wp2
              go_ret
              exact ⟨rfl, below_drw B17.out HWR.out⟩
end Go.Proofs.Ytikleaiflmoffaa
