/- How long a line is; how long it is told by a ruler. -/
import Derived.Test.YtikleaiflmoffaaRul
namespace Go.Proofs.Ytikleaiflmoffaa
open Ieee Go.RowKit
/-- the sum of the first k steps of a line -/
def lenF (P : List (Int × Int)) : Nat → Nat
  | 0 => 0
  | k + 1 => fop .add .f32 (lenF P k) (farF (P.getD (k + 1) (0, 0)) (P.getD k (0, 0)))
set_option maxRecDepth 100000 in
set_option maxHeartbeats 4000000 in
theorem longOfLine0_any (A : Option Addr) (m c B : Nat) (P : List (Int × Int)) (w : World) (hP : Pts P (m + 1)) (hm : m < 256) (H : ∀ k, k < m → floatBits .add .f32 (lenF P k) (farF (P.getD (k + 1) (0, 0)) (P.getD k (0, 0))) = some (lenF P (k + 1))) (hr : Rd w B A (P.map cvP)) :
    Calls Try.prog 24 #[.slice A (m + 1) c] w fun e w' => e = .returned (.float .f32 (lenF P m)) ∧ ∃ mm, w' = w.drewN mm := by
  have HP := Lib.hid hP
  have Hr := Lib.hid hr
  have HH := Lib.hid H
  clear hP hr H
  go_enter Try.func24, Try.ntmps24
  go_wp2_with fail
  go_loopw [3, 4] (fun s i wr => ∃ k i1 : Nat, Hid (i1 = k + 1) ∧ i1 ≤ m + 1 ∧ i = .int .i64 i1 ∧ s = .float .f32 (lenF P k) ∧ ∃ mm, wr = w.drewN mm) (fun _ i _ => m + 1 - (intOf i).toNat)
  case atStart => exact ⟨0, 1, Lib.hid rfl, by omega, rfl, rfl, 0, rfl⟩
  case round =>
    obtain ⟨k, i1, HI, hi1, rfl, rfl, hwr⟩ := hrel
    have R4 := Lib.hid (rd_drw Hr.out hwr)
    have HWR := Lib.hid hwr
    clear hwr
    have hik := HI.out
    by_cases hlt : i1 < m + 1
    · obtain ⟨g1, gk1, ge1⟩ := getD_pt HP.out (k := i1) hlt
      obtain ⟨g2, gk2, ge2⟩ := getD_pt HP.out (k := k) (by omega)
      obtain ⟨ad, rfl, hc1⟩ := pts_cell R4.out gk1
      obtain ⟨ad', had, hc2⟩ := pts_cell R4.out gk2
      cases had
      rw [ge1] at hc1
      rw [ge2] at hc2
      have HA := HH.out k (by omega)
      have e1 : P.getD i1 (0, 0) = P.getD (k + 1) (0, 0) := by rw [hik]
      rw [← e1] at HA
      have HS1 := Lib.hid (fun W => sub_any _ _ W g1 g2)
      have HL1 := Lib.hid (fun W => longSub_any _ _ W g1 g2)
      obtain ⟨p, hp⟩ : ∃ p, p = P.getD i1 (0, 0) := ⟨_, rfl⟩
      obtain ⟨q, hq⟩ : ∃ p, p = P.getD k (0, 0) := ⟨_, rfl⟩
      rw [← hp] at hc1 HS1 HL1 HA
      rw [← hq] at hc2 HS1 HL1 HA
      obtain ⟨pv, hpv⟩ : ∃ v, v = cvP p := ⟨_, rfl⟩
      obtain ⟨qv, hqv⟩ : ∃ v, v = cvP q := ⟨_, rfl⟩
      rw [← hpv] at hc1 HS1
      rw [← hqv] at hc2 HS1
      obtain ⟨f, hf⟩ : ∃ f, f = farF p q := ⟨_, rfl⟩
      rw [← hf] at HL1 HA
      obtain ⟨s1, hs1⟩ : ∃ s, s = lenF P (k + 1) := ⟨_, rfl⟩
      rw [← hs1] at HA
      have HSE := Lib.hid hs1
      obtain ⟨s0, hs0⟩ : ∃ s, s = lenF P k := ⟨_, rfl⟩
      rw [← hs0] at HA ⊢
      have ga := run_num (P := Try.prog) HA
      have hw2 : (i1 : Int) - 1 = (k : Int) := by omega
      have hw1 : IntKind.i64.wrap (k : Int) = (k : Int) := by rw [IntKind.wrap_i64]; omega
      have hk0 : (k : Int) < (m : Int) + 1 := by omega
      have hk1 : (i1 : Int) < (m : Int) + 1 := by omega
      clear g1 g2 gk1 gk2 ge1 ge2 e1 hp hq hpv hqv hf hs1 hs0 HA hik
      go_wp2_with fail
      go_quiet (first | (go_at_call 22; go_must (exact Calls.quiet_of_same (HS1.out _))) | (go_at_call 16; go_must (exact Calls.quiet_of (HL1.out _))))
      go_wp2_with fail
      go_roundw
      case rel => exact ⟨k + 1, i1 + 1, Lib.hid (by rw [HI.out]), by omega, by go_num, by rw [HSE.out], drw_trans HWR.out ⟨_, rfl⟩⟩
      case measure => simp [intOf]; omega
    · obtain rfl : k = m := by omega
      obtain rfl : i1 = k + 1 := by omega
      go_wp2
      go_ret
      exact ⟨rfl, HWR.out⟩
set_option maxRecDepth 100000 in
theorem longOfLine_any (A : Option Addr) (m c : Nat) (P : List (Int × Int)) (w : World) (hP : Pts P (m + 1)) (hm : m < 256) (H : ∀ k, k < m → floatBits .add .f32 (lenF P k) (farF (P.getD (k + 1) (0, 0)) (P.getD k (0, 0))) = some (lenF P (k + 1))) (hf : finB (lenF P m) = true) (hr : Rd w w.heap.size A (P.map cvP)) :
    Calls Try.prog 12 #[.slice A (m + 1) c] w fun e w' => e = .returned (.tuple #[.float .f32 (lenF P m), .bool true]) ∧ Below w.heap.size w w' := by
  have HA := Lib.hid (arePoints_any A (m + 1) c P w hP (by omega) hr)
  have HL := Lib.hid (fun W (B : Nat) (r : Rd W B A (P.map cvP)) => longOfLine0_any A m c B P W hP hm H r)
  have HI := Lib.hid (fun W => ifNumber_any (lenF P m) (lenF P m) W (.refl _ _))
  rw [show numV (lenF P m) = lenF P m by unfold numV; rw [hf, if_pos rfl], hf] at HI
  have Hr := Lib.hid hr
  clear hP hr H hf
  go_enter Try.func12, Try.ntmps12
  go_wp2_with fail
  refine HA.out.mono ?_
  rintro e w1 ⟨rfl, hb1⟩
  have B1 := Lib.hid hb1
  have R1 := Lib.hid (Hr.out.next hb1)
  clear hb1
  go_wp2_with fail
  refine (HL.out w1 _ R1.out).mono ?_
  rintro e w2 ⟨rfl, hq⟩
  have B2 := Lib.hid (below_drw B1.out hq)
  clear hq
  go_wp2_with fail
  refine (HI.out _).mono ?_
  rintro e w' ⟨rfl, m9, rfl⟩
  go_wp2
  go_ret2
  exact ⟨rfl, below_drewN B2.out _⟩
def rlM (P : List (Int × Int)) (r : Nat) : Nat := fop .mul .f32 (floatOfInt .f32 ((rul P r).2 : Int)) r
def rlL (P : List (Int × Int)) (r : Nat) : Nat := fop .add .f32 (rlM P r) (rest P r)
set_option maxRecDepth 100000 in
theorem rulerLong_any (g m c r : Nat) (P : List (Int × Int)) (w : World) (hP : Pts P (m + 1)) (hm : m < 256) (hcap : m + 1 ≤ c) (hf : finB r = true) (h0 : gtB r = true) (hr : Rd w w.heap.size (some ⟨g, 0, none⟩) (P.map cvP))
    (h1 : floatBits .mul .f32 (floatOfInt .f32 ((rul P r).2 : Int)) r = some (rlM P r)) (h2 : floatBits .add .f32 (rlM P r) (rest P r) = some (rlL P r)) (h3 : finB (rlL P r) = true) :
    Calls Try.prog 11 #[.slice (some ⟨g, 0, none⟩) (m + 1) c, .float .f32 r] w fun e w' => e = .returned (.tuple #[.float .f32 (rlL P r), .bool true]) ∧ Below w.heap.size w w' := by
  have HC := Lib.hid (rulerCount_any g m c r P w hP hm hcap hf h0 hr)
  have HI := Lib.hid (fun W => ifNumber_any (rlL P r) (rlL P r) W (.refl _ _))
  rw [show numV (rlL P r) = rlL P r by unfold numV; rw [h3, if_pos rfl], h3] at HI
  have g1 := run_num (P := Try.prog) h1
  have g2 := run_num (P := Try.prog) h2
  have hcv := fun (z : Int) (W : World) => run_convert_int_float (P := Try.prog) W 2 27 .i64 .f32 z (by rw [Try.underlying2]; rfl) Try.und27
  clear hP hr h1 h2 h3 hf h0
  go_enter Try.func11, Try.ntmps11
  go_wp2_with fail
  refine HC.out.mono ?_
  rintro e w1 ⟨rfl, hb1⟩
  have B1 := Lib.hid hb1
  clear hb1 HC
  go_wp2_with fail
  refine (HI.out _).mono ?_
  rintro e w' ⟨rfl, m9, rfl⟩
  go_wp2
  go_ret2
  exact ⟨rfl, below_drewN B1.out _⟩
/-- how many pairs are near, with the second point before the k-th -/
def prN (P : List (Int × Int)) (r : Nat) : Nat → Nat
  | 0 => 0
  | k + 1 => prN P r k + (P.take k).countP fun q => leF (farF (P.getD k (0, 0)) q) r
def alN : Nat → Nat
  | 0 => 0
  | k + 1 => alN k + k
theorem alN_le (k : Nat) : alN k ≤ k * k := by
  induction k with
  | zero => simp [alN]
  | succ k ih =>
    unfold alN
    have : (k + 1) * (k + 1) = k * k + 2 * k + 1 := by grind
    omega
theorem prN_le (P : List (Int × Int)) (r k : Nat) : prN P r k ≤ alN k := by
  induction k with
  | zero => exact Nat.le_refl _
  | succ k ih =>
    unfold prN alN
    have h := List.countP_le_length (p := fun q => leF (farF (P.getD k (0, 0)) q) r) (l := P.take k)
    rw [List.length_take] at h
    omega
theorem cnt_step {P : List (Int × Int)} {p : Int × Int} {r j k : Nat} (h : j < k) (hk : k ≤ P.length) : (P.take (j + 1)).countP (fun q => leF (farF p q) r) = (P.take j).countP (fun q => leF (farF p q) r) + (if leF (farF p (P.getD j (0, 0))) r = true then 1 else 0) := by
  have hj : j < P.length := by omega
  have e : P[j] = P.getD j (0, 0) := by simp [List.getD, List.getElem?_eq_getElem hj]
  rw [List.take_succ_eq_append_getElem hj, List.countP_append, e]
  simp [List.countP_cons]
set_option maxRecDepth 100000 in
set_option maxHeartbeats 4000000 in
theorem pairShare_any (A : Option Addr) (n c r v : Nat) (P : List (Int × Int)) (w : World) (hP : Pts P n) (h2 : 2 ≤ n) (hm : n ≤ 256) (hcap : n ≤ c) (hf : finB r = true) (h0 : geF r 0 = true) (hr : Rd w w.heap.size A (P.map cvP))
    (hv : floatBits .quo .f32 (floatOfInt .f32 (prN P r n : Int)) (floatOfInt .f32 (alN n : Int)) = some v) :
    Calls Try.prog 15 #[.slice A n c, .float .f32 r] w fun e w' => e = .returned (.tuple #[.float .f32 v, .bool true]) ∧ Below w.heap.size w w' := by
  have HA := Lib.hid (arePoints_any A n c P w hP hm hr)
  have HR := Lib.hid (fun W => isRadius_any r W hf h0)
  have HS := Lib.hid (fun (p q : Int × Int) (hp : Pt p) (hq : Pt q) W => sub_any p q W hp hq)
  have HL := Lib.hid (fun (p q : Int × Int) (hp : Pt p) (hq : Pt q) W => longSub_any p q W hp hq)
  have hcv := fun (z : Int) (W : World) => run_convert_int_float (P := Try.prog) W 3 27 .i64 .f32 z (by rw [Try.underlying3]; rfl) Try.und27
  have gv := run_num (P := Try.prog) hv
  have HV := Lib.hid gv
  have HP := Lib.hid hP
  have Hr := Lib.hid hr
  have hn2 : ¬ (n : Int) < 2 := by omega
  clear hP hr hf h0 hv gv
  go_enter Try.func15, Try.ntmps15
  go_wp2_with fail
  refine HA.out.mono ?_
  rintro e w1 ⟨rfl, hb1⟩
  have B1 := Lib.hid hb1
  have R1 := Lib.hid (Hr.out.next hb1)
  clear hb1 HA Hr
  go_wp2_with fail
  refine (HR.out _).mono ?_
  rintro e w' ⟨rfl, hq2⟩
  obtain ⟨w2, hw2⟩ : ∃ x, x = w' := ⟨_, rfl⟩
  rw [← hw2] at hq2 ⊢
  have B2 := Lib.hid (below_drw B1.out hq2)
  have R2 := Lib.hid (rd_drw R1.out hq2)
  clear hq2 hw2 B1 R1 HR
  go_wp2_with fail
  go_loopw [6, 7, 8, 9, 11, 27] (fun a b _ _ _ i wr => ∃ k : Nat, k ≤ n ∧ i = .int .i64 k ∧ a = .int .i64 (prN P r k : Int) ∧ b = .int .i64 (alN k : Int) ∧ ∃ mm, wr = w2.drewN mm) (fun _ _ _ _ _ i _ => n - (intOf i).toNat)
  case atStart => exact ⟨0, Nat.zero_le _, rfl, rfl, rfl, 0, rfl⟩
  case round =>
    obtain ⟨k, hk, rfl, rfl, rfl, hwr⟩ := hrel
    have R4 := Lib.hid (rd_drw R2.out hwr)
    have HWR := Lib.hid hwr
    clear hwr
    have ha1 := alN_le k
    have hk2 : k * k ≤ 65536 := by have := Nat.mul_le_mul (show k ≤ 256 by omega) (show k ≤ 256 by omega); omega
    have hp1 := prN_le P r k
    by_cases hlt : k < n
    · obtain ⟨g1, gk1, ge1⟩ := getD_pt HP.out (k := k) hlt
      obtain ⟨ad, rfl, hc1⟩ := pts_cell R4.out gk1
      rw [ge1] at hc1
      have HSTP : Hid (prN P r (k + 1) = prN P r k + (P.take k).countP fun q => leF (farF (P.getD k (0, 0)) q) r) := Lib.hid rfl
      have HSTA : Hid (alN (k + 1) = alN k + k) := Lib.hid rfl
      obtain ⟨p, hp⟩ : ∃ p, p = P.getD k (0, 0) := ⟨_, rfl⟩
      rw [← hp] at hc1 g1 HSTP
      have HS1 := Lib.hid (fun q hq W => HS.out p q g1 hq W)
      have HL1 := Lib.hid (fun q hq W => HL.out p q g1 hq W)
      obtain ⟨pv, hpv⟩ : ∃ v, v = cvP p := ⟨_, rfl⟩
      rw [← hpv] at hc1 HS1
      obtain ⟨p0, hp0⟩ : ∃ x, x = prN P r k := ⟨_, rfl⟩
      obtain ⟨a0, ha0⟩ : ∃ x, x = alN k := ⟨_, rfl⟩
      rw [← hp0] at hp1 HSTP ⊢
      rw [← ha0] at ha1 hp1 HSTA ⊢
      have hkc : (k : Int) ≤ (c : Int) := by omega
      have hkn : (k : Int) < (n : Int) := by omega
      clear hp hpv hp0 ha0 g1 ge1
      go_wp2_with fail
      go_loopw [6, 7, 11, 36] (fun a b _ i wx => ∃ j : Nat, j ≤ k ∧ i = .int .i64 j ∧ a = .int .i64 ((p0 + (P.take j).countP fun q => leF (farF p q) r : Nat) : Int) ∧ b = .int .i64 ((a0 + j : Nat) : Int) ∧ ∃ mm, wx = wr.drewN mm) (fun _ _ _ i _ => k - (intOf i).toNat)
      case atStart => exact ⟨0, Nat.zero_le _, rfl, by simp, by simp, 0, rfl⟩
      case round =>
        obtain ⟨j, hj, rfl, rfl, rfl, hwx⟩ := hrel
        have R5 := Lib.hid (rd_drw R4.out hwx)
        have HWX := Lib.hid hwx
        clear hwx
        have hcl := List.countP_le_length (p := fun q => leF (farF p q) r) (l := P.take j)
        have hcl2 : (P.take j).length ≤ j := by rw [List.length_take]; omega
        obtain ⟨cj, hcj⟩ : ∃ x, x = (P.take j).countP fun q => leF (farF p q) r := ⟨_, rfl⟩
        rw [← hcj] at hcl ⊢
        by_cases hlj : j < k
        · obtain ⟨g2, gk2, ge2⟩ := getD_pt HP.out (k := j) (by omega)
          obtain ⟨ad', had, hc2⟩ := pts_cell R5.out gk2
          cases had
          rw [ge2] at hc2
          have HST := Lib.hid (cnt_step (p := p) (r := r) hlj (by rw [HP.out.len]; omega))
          rw [← hcj] at HST
          obtain ⟨q, hq⟩ : ∃ q, q = P.getD j (0, 0) := ⟨_, rfl⟩
          rw [← hq] at hc2 g2 HST
          have HS2 := Lib.hid (HS1.out q g2)
          have HL2 := Lib.hid (HL1.out q g2)
          obtain ⟨qv, hqv⟩ : ∃ v, v = cvP q := ⟨_, rfl⟩
          rw [← hqv] at hc2 HS2
          have HFR : Hid (leF (farF p q) r = (FloatKind.f32.format.order (farF p q) r == some .lt || FloatKind.f32.format.order (farF p q) r == some .eq)) := Lib.hid rfl
          obtain ⟨f, hf⟩ : ∃ f, f = farF p q := ⟨_, rfl⟩
          rw [← hf] at HL2 HST HFR
          have hjk : (j : Int) < (k : Int) := by omega
          clear hq hqv hf g2 ge2 hcj
          cases hle : leF f r
          · have ho := HFR.out.symm.trans hle
            have HST2 : Hid ((P.take (j + 1)).countP (fun q => leF (farF p q) r) = cj) := Lib.hid (by rw [HST.out, hle]; simp)
            clear HST hle HFR
            go_wp2_with fail
            refine (HS2.out _).mono ?_
            rintro e w' ⟨rfl, hw⟩
            rw [hw]
            clear hw w'
            go_wp2_with fail
            refine (HL2.out _).mono ?_
            rintro e w' ⟨rfl, hq2⟩
            have HQ2 := Lib.hid (drw_trans HWX.out hq2)
            clear hq2 hc2
            go_wp2
            go_roundw
            case rel => exact ⟨j + 1, by omega, by go_num, by rw [HST2.out]; first | rfl | go_num, by go_num, HQ2.out⟩
            case measure => simp [intOf]; omega
          · have ho := HFR.out.symm.trans hle
            have HST2 : Hid ((P.take (j + 1)).countP (fun q => leF (farF p q) r) = cj + 1) := Lib.hid (by rw [HST.out, hle]; simp)
            clear HST hle HFR
            go_wp2_with fail
            refine (HS2.out _).mono ?_
            rintro e w' ⟨rfl, hw⟩
            rw [hw]
            clear hw w'
            go_wp2_with fail
            refine (HL2.out _).mono ?_
            rintro e w' ⟨rfl, hq2⟩
            have HQ2 := Lib.hid (drw_trans HWX.out hq2)
            clear hq2 hc2
            go_wp2
            go_roundw
            case rel => exact ⟨j + 1, by omega, by go_num, by rw [HST2.out]; go_num, by go_num, HQ2.out⟩
            case measure => simp [intOf]; omega
        · obtain rfl : j = k := by omega
          have HE1 : Hid (prN P r (j + 1) = p0 + cj) := Lib.hid (by rw [HSTP.out, hcj])
          clear hcj
          go_wp2
          go_roundw
          case rel => exact ⟨j + 1, by omega, by go_num, by rw [HE1.out], by rw [HSTA.out], drw_trans HWR.out HWX.out⟩
          case measure => simp [intOf]; omega
    · obtain rfl : k = n := by omega
      have gv := HV.out
      have B4 := Lib.hid (below_drw B2.out HWR.out)
      go_wp2
      go_ret2
      exact ⟨rfl, B4.out⟩
end Go.Proofs.Ytikleaiflmoffaa
