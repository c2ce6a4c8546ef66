/- How many points are near; how far the nearest one is; how far two lists are from one another. -/
import Derived.Test.YtikleaiflmoffaaAre
namespace Go.Proofs.Ytikleaiflmoffaa
open Ieee Go.RowKit
def geF (x c : Nat) : Bool := FloatKind.f32.format.order x c == some .gt || FloatKind.f32.format.order x c == some .eq
def leF (x c : Nat) : Bool := FloatKind.f32.format.order x c == some .lt || FloatKind.f32.format.order x c == some .eq
def ltF (x c : Nat) : Bool := FloatKind.f32.format.order x c == some .lt
theorem isRadius_any (r : Nat) (w : World) (hf : finB r = true) (h0 : geF r 0 = true) : Calls Try.prog 26 #[.float .f32 r] w fun e w' => e = .returned (.bool true) ∧ ∃ m, w' = w.drewN m := by
  have H := Lib.hid (fun W => isFinite_any r W)
  rw [hf] at H
  unfold geF at h0
  clear hf
  go_enter Try.func26, Try.ntmps26
  go_wp2_with fail
  refine (H.out _).mono ?_
  rintro e w' ⟨rfl, m, rfl⟩
  go_wp2
  go_ret
  exact ⟨rfl, _, rfl⟩
theorem Pts.get {P : List (Int × Int)} {n k : Nat} (h : Pts P n) (hk : k < P.length) : Pt P[k] := h.pt _ (List.getElem_mem hk)
/-- a point's row, cell by cell -/
theorem pts_cell {P : List (Int × Int)} {B k : Nat} {W : World} {A : Option Addr} (R : Rd W B A (P.map cvP)) (hk : k < P.length) : ∃ ad, A = some ad ∧ W.cell? (ad.add k) = some (cvP P[k]) := by
  obtain ⟨ad, hA, _, hc⟩ := R.at_ (k := k) (by rw [List.length_map]; exact hk)
  rw [List.getElem_map] at hc
  exact ⟨ad, hA, hc⟩
def massN (P : List (Int × Int)) (q : Int × Int) (r : Nat) : Nat := P.countP fun p => leF (farF p q) r
theorem mass_step {P : List (Int × Int)} {q : Int × Int} {r k : Nat} (h : k < P.length) : massN (P.take (k + 1)) q r = massN (P.take k) q r + (if leF (farF P[k] q) r = true then 1 else 0) := by
  unfold massN
  rw [List.take_succ_eq_append_getElem h, List.countP_append]
  simp [List.countP_cons]
theorem massN_le (P : List (Int × Int)) (q : Int × Int) (r : Nat) : massN P q r ≤ P.length := List.countP_le_length
set_option maxRecDepth 100000 in
set_option maxHeartbeats 4000000 in
theorem massIn_any (A : Option Addr) (n c r : Nat) (P : List (Int × Int)) (q : Int × Int) (w : World) (hP : Pts P n) (hm : n ≤ 256) (hq : Pt q) (hf : finB r = true) (h0 : geF r 0 = true) (hr : Rd w w.heap.size A (P.map cvP)) :
    Calls Try.prog 13 #[.slice A n c, cvP q, .float .f32 r] w fun e w' => e = .returned (.tuple #[.int .i64 (massN P q r), .bool true]) ∧ Below w.heap.size w w' := by
  have HA := Lib.hid (arePoints_any A n c P w hP hm hr)
  have HC := Lib.hid (fun W => isFiniteC_any q W hq)
  have HR := Lib.hid (fun W => isRadius_any r W hf h0)
  have HS := Lib.hid (fun (p : Int × Int) (hp : Pt p) W => sub_any p q W hp hq)
  have HL := Lib.hid (fun (p : Int × Int) (hp : Pt p) W => longSub_any p q W hp hq)
  have HP := Lib.hid hP
  have Hr := Lib.hid hr
  obtain ⟨qv, hqv⟩ : ∃ v, v = cvP q := ⟨_, rfl⟩
  rw [← hqv] at HC HS ⊢
  clear hP hr hq hf h0 hqv
  go_enter Try.func13, Try.ntmps13
  go_wp2_with fail
  refine HA.out.mono ?_
  rintro e w1 ⟨rfl, hb1⟩
  have B1 := Lib.hid hb1
  have R1 := Lib.hid (Hr.out.next hb1)
  clear hb1 HA Hr
  go_wp2_with fail
  refine (HC.out _).mono ?_
  rintro e w' ⟨rfl, hq2⟩
  obtain ⟨w2, hw2⟩ : ∃ x, x = w' := ⟨_, rfl⟩
  rw [← hw2] at hq2 ⊢
  have B2 := Lib.hid (below_drw B1.out hq2)
  have R2 := Lib.hid (rd_drw R1.out hq2)
  clear hq2 hw2 B1 R1 HC
  go_wp2_with fail
  refine (HR.out _).mono ?_
  rintro e w' ⟨rfl, hq2⟩
  obtain ⟨w3, hw3⟩ : ∃ x, x = w' := ⟨_, rfl⟩
  rw [← hw3] at hq2 ⊢
  have B3 := Lib.hid (below_drw B2.out hq2)
  have R3 := Lib.hid (rd_drw R2.out hq2)
  clear hq2 hw3 B2 R2 HR
  go_wp2_with fail
  go_loopw [8, 10, 26] (fun v _ i wr => ∃ k : Nat, k ≤ n ∧ i = .int .i64 k ∧ v = .int .i64 (massN (P.take k) q r) ∧ ∃ m, wr = w3.drewN m) (fun _ _ i _ => n - (intOf i).toNat)
  case atStart => exact ⟨0, Nat.zero_le _, rfl, rfl, 0, rfl⟩
  case round =>
    obtain ⟨k, hk, rfl, rfl, hwr⟩ := hrel
    have R4 := Lib.hid (rd_drw R3.out hwr)
    have HWR := Lib.hid hwr
    clear hwr
    by_cases hlt : k < n
    · have hka : k < P.length := by rw [HP.out.len]; exact hlt
      obtain ⟨ad, rfl, hc⟩ := pts_cell R4.out hka
      have hpt := HP.out.get hka
      have HST := Lib.hid (mass_step (q := q) (r := r) hka)
      obtain ⟨p, hp⟩ : ∃ p, p = P[k] := ⟨_, rfl⟩
      rw [← hp] at hc hpt HST
      have HS1 := Lib.hid (HS.out p hpt)
      have HL1 := Lib.hid (HL.out p hpt)
      have hml := massN_le (P.take k) q r
      have hml2 : (P.take k).length ≤ 256 := by rw [List.length_take]; omega
      obtain ⟨pv, hpv⟩ : ∃ v, v = cvP p := ⟨_, rfl⟩
      rw [← hpv] at hc HS1
      have HFR : Hid (leF (farF p q) r = (FloatKind.f32.format.order (farF p q) r == some .lt || FloatKind.f32.format.order (farF p q) r == some .eq)) := Lib.hid rfl
      obtain ⟨f, hf⟩ : ∃ f, f = farF p q := ⟨_, rfl⟩
      rw [← hf] at HL1 HST HFR
      obtain ⟨mn, hmn⟩ : ∃ x, x = massN (P.take k) q r := ⟨_, rfl⟩
      rw [← hmn] at HST hml ⊢
      clear hp hpv hf hpt hka
      cases hle : leF f r
      · have ho := HFR.out.symm.trans hle
        have HST2 : Hid (massN (P.take (k + 1)) q r = mn) := Lib.hid (by rw [HST.out, hle]; simp)
        clear HST hle HFR hmn
        go_wp2_with fail
        refine (HS1.out _).mono ?_
        rintro e w' ⟨rfl, hw⟩
        rw [hw]
        clear hw w'
        go_wp2_with fail
        refine (HL1.out _).mono ?_
        rintro e w' ⟨rfl, hq2⟩
        have HQ2 := Lib.hid (drw_trans HWR.out hq2)
        clear hq2 hc
        go_wp2
        go_roundw
        case rel => exact ⟨k + 1, by omega, by go_num, by rw [HST2.out], HQ2.out⟩
        case measure => simp [intOf]; omega
      · have ho := HFR.out.symm.trans hle
        have HST2 : Hid (massN (P.take (k + 1)) q r = mn + 1) := Lib.hid (by rw [HST.out, hle]; simp)
        clear HST hle HFR hmn
        go_wp2_with fail
        refine (HS1.out _).mono ?_
        rintro e w' ⟨rfl, hw⟩
        rw [hw]
        clear hw w'
        go_wp2_with fail
        refine (HL1.out _).mono ?_
        rintro e w' ⟨rfl, hq2⟩
        have HQ2 := Lib.hid (drw_trans HWR.out hq2)
        clear hq2 hc
        go_wp2
        go_roundw
        case rel => exact ⟨k + 1, by omega, by go_num, by rw [HST2.out]; go_num, HQ2.out⟩
        case measure => simp [intOf]; omega
    · obtain rfl : k = n := by omega
      have hT : P.take k = P := List.take_of_length_le (by rw [HP.out.len]; omega)
      have B4 := Lib.hid (below_drw B3.out HWR.out)
      rw [hT]
      clear hT
      go_wp2
      go_ret2
      exact ⟨rfl, B4.out⟩
end Go.Proofs.Ytikleaiflmoffaa
