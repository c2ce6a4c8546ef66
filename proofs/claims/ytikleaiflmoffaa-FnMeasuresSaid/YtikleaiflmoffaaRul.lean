/- Walks along points with a ruler; how long a line is. -/
import Derived.Test.YtikleaiflmoffaaSet
import Derived.BigQuiet
namespace Go.Proofs.Ytikleaiflmoffaa
open Ieee Go.RowKit
theorem add_add_off (ad : Addr) (p j : Nat) : (ad.add p).add j = ad.add (p + j) := by
  obtain ⟨b, o, q⟩ := ad
  unfold Addr.add
  cases q <;> (split <;> split <;> simp_all <;> omega)
theorem tail_cell {P : List (Int × Int)} {B k : Nat} {W : World} {ad : Addr} (R : Rd W B (some ad) (P.map cvP)) (hk : k < P.tail.length) : W.cell? ((ad.add 1).add k) = some (cvP P.tail[k]) := by
  have hk2 : k + 1 < P.length := by simp at hk; omega
  obtain ⟨ad', had, hc⟩ := pts_cell R hk2
  cases had
  rw [add_add_off, Nat.add_comm]
  rw [hc]
  congr 2
  simp
theorem addr_at (g k j : Nat) : (⟨g, j, none⟩ : Addr).add k = ⟨g, j + k, none⟩ := by unfold Addr.add; split <;> simp_all
theorem addr_z (g k : Nat) : (⟨g, 0, none⟩ : Addr).add k = ⟨g, k, none⟩ := by rw [addr_at, Nat.zero_add]
/-- a step of the ruler -/
def rlS (r : Nat) (s : (Int × Int) × Nat) (p : Int × Int) : (Int × Int) × Nat := if geF (farF p s.1) r = true then (p, s.2 + 1) else s
def rul (P : List (Int × Int)) (r : Nat) : (Int × Int) × Nat := P.tail.foldl (rlS r) (P.getD 0 (0, 0), 0)
def rest (P : List (Int × Int)) (r : Nat) : Nat := farF (P.getD (P.length - 1) (0, 0)) (rul P r).1
theorem rl_pt {r : Nat} : ∀ (P : List (Int × Int)) (s : (Int × Int) × Nat), (∀ p ∈ P, Pt p) → Pt s.1 → Pt (P.foldl (rlS r) s).1 ∧ (P.foldl (rlS r) s).2 ≤ s.2 + P.length := by
  intro P
  induction P with
  | nil => intro s _ h; exact ⟨h, by simp⟩
  | cons p P ih =>
    intro s h hs
    have h1 : Pt (rlS r s p).1 ∧ (rlS r s p).2 ≤ s.2 + 1 := by
      unfold rlS
      split
      · exact ⟨h p List.mem_cons_self, Nat.le_refl _⟩
      · exact ⟨hs, by omega⟩
    obtain ⟨a, b⟩ := ih (rlS r s p) (fun q hq => h q (List.mem_cons_of_mem _ hq)) h1.1
    refine ⟨a, ?_⟩
    rw [List.foldl_cons, List.length_cons]
    omega
theorem getD_pt {P : List (Int × Int)} {n k : Nat} (h : Pts P n) (hk : k < n) : Pt (P.getD k (0, 0)) ∧ ∃ hk' : k < P.length, P[k] = P.getD k (0, 0) := by
  have hl := h.len
  have e : P[k]'(by omega) = P.getD k (0, 0) := by simp [List.getD, List.getElem?_eq_getElem (show k < P.length by omega)]
  exact ⟨by rw [← e]; exact h.get _, by omega, e⟩
set_option maxRecDepth 100000 in
set_option maxHeartbeats 4000000 in
theorem rulerCount_any (g m c r : Nat) (P : List (Int × Int)) (w : World) (hP : Pts P (m + 1)) (hm : m < 256) (hcap : m + 1 ≤ c) (hf : finB r = true) (h0 : gtB r = true) (hr : Rd w w.heap.size (some ⟨g, 0, none⟩) (P.map cvP)) :
    Calls Try.prog 10 #[.slice (some ⟨g, 0, none⟩) (m + 1) c, .float .f32 r] w fun e w' => e = .returned (.tuple #[.int .i64 ((rul P r).2 : Int), .float .f32 (rest P r), .bool true]) ∧ Below w.heap.size w w' := by
  have HA := Lib.hid (arePoints_any (some ⟨g, 0, none⟩) (m + 1) c P w hP (by omega) hr)
  have HF := Lib.hid (fun W => isFinite_any r W)
  rw [hf] at HF
  obtain ⟨g1, gk1, ge1⟩ := getD_pt hP (k := 0) (by omega)
  obtain ⟨g2, gk2, ge2⟩ := getD_pt hP (k := m) (by omega)
  have hgt : (FloatKind.f32.format.order r 0 == some .gt) = true := h0
  have hb0 : ((m : Int) + 1 == 0) = false := by rw [beq_eq_false_iff_ne]; omega
  have HTL : Hid (P.tail.length = m) := Lib.hid (by rw [List.length_tail, hP.len]; rfl)
  have HTP : Hid (∀ p ∈ P.tail, Pt p) := Lib.hid (fun p hp => hP.pt p (List.mem_of_mem_tail hp))
  have HP := Lib.hid hP
  have Hr := Lib.hid hr
  have HS := Lib.hid (fun (p q : Int × Int) (hp : Pt p) (hq : Pt q) W => sub_any p q W hp hq)
  have HL := Lib.hid (fun (p q : Int × Int) (hp : Pt p) (hq : Pt q) W => longSub_any p q W hp hq)
  have HG := Lib.hid (And.intro g1 g2)
  have HE := Lib.hid (And.intro ge1 ge2)
  clear hP hr h0 hf g1 g2 ge1 ge2
  go_enter Try.func10, Try.ntmps10
  go_wp2_with fail
  refine HA.out.mono ?_
  rintro e w1 ⟨rfl, hb1⟩
  have B1 := Lib.hid hb1
  have R1 := Lib.hid (Hr.out.next hb1)
  clear hb1 HA Hr
  go_wp2_with fail
  refine (HF.out _).mono ?_
  rintro e w' ⟨rfl, hq2⟩
  obtain ⟨w2, hw2⟩ : ∃ x, x = w' := ⟨_, rfl⟩
  rw [← hw2] at hq2 ⊢
  have B2 := Lib.hid (below_drw B1.out hq2)
  have R2 := Lib.hid (rd_drw R1.out hq2)
  clear hq2 hw2 B1 R1 HF
  obtain ⟨ad', had, hc0⟩ := pts_cell R2.out gk1
  cases had
  rw [HE.out.1] at hc0
  have hc0' : w2.cell? ⟨g, 0, none⟩ = _ := cell_zero hc0
  obtain ⟨p0, hp0⟩ : ∃ p, p = P.getD 0 (0, 0) := ⟨_, rfl⟩
  have HP0 := Lib.hid hp0
  have HPT0 : Hid (Pt p0) := Lib.hid (by rw [hp0]; exact HG.out.1)
  rw [← hp0] at hc0 hc0'
  clear hp0 hc0
  rcases (show c = 1 ∨ 1 < c by omega) with rfl | hc1
  · have HM0 : Hid (m = 0) := Lib.hid (by omega)
    clear hcap
    go_wp2_with fail
    clear hc0'
    go_loopw [7, 8, 10, 36] (fun a s _ i wr => ∃ k : Nat, k ≤ m ∧ i = .int .i64 k ∧ a = cvP ((P.tail.take k).foldl (rlS r) (p0, 0)).1 ∧ s = .int .i64 (((P.tail.take k).foldl (rlS r) (p0, 0)).2 : Int) ∧ ∃ mm, wr = w2.drewN mm) (fun _ _ _ i _ => m - (intOf i).toNat)
    case atStart => exact ⟨0, Nat.zero_le _, rfl, rfl, rfl, 0, rfl⟩
    case round =>
      obtain ⟨k, hk, rfl, rfl, rfl, hwr⟩ := hrel
      have R4 := Lib.hid (rd_drw R2.out hwr)
      have HWR := Lib.hid hwr
      clear hwr
      by_cases hlt : k < m
      · have := HM0.out; omega
      · obtain rfl : k = m := by omega
        have hT : P.tail.take k = P.tail := List.take_of_length_le (by rw [HTL.out]; omega)
        rw [hT]
        have HRU : Hid (rul P r = P.tail.foldl (rlS r) (p0, 0)) := Lib.hid (by rw [HP0.out]; rfl)
        rw [← HRU.out]
        obtain ⟨ad', had, hcl⟩ := pts_cell R4.out gk2
        cases had
        rw [HE.out.2] at hcl
        replace hcl : wr.cell? ⟨g, k, none⟩ = some (cvP (P.getD k (0, 0))) := by rw [addr_z] at hcl; exact hcl
        have hat := (rl_pt (r := r) P.tail (p0, 0) HTP.out HPT0.out)
        rw [← HRU.out] at hat
        have hbd : (rul P r).2 ≤ 256 := by have := hat.2; rw [HTL.out] at this; simp at this; omega
        have HS1 := Lib.hid (HS.out _ _ HG.out.2 hat.1)
        have HL1 := Lib.hid (HL.out _ _ HG.out.2 hat.1)
        have HNN := Lib.hid (far_nn HG.out.2 hat.1)
        have HRE : Hid (rest P r = farF (P.getD k (0, 0)) (rul P r).1) := Lib.hid (by unfold rest; rw [show P.length - 1 = k by rw [HP.out.len]; rfl])
        obtain ⟨st, hst⟩ : ∃ x, x = (rul P r).2 := ⟨_, rfl⟩
        obtain ⟨at_, hat2⟩ : ∃ x, x = (rul P r).1 := ⟨_, rfl⟩
        obtain ⟨pl, hpl⟩ : ∃ x, x = P.getD k (0, 0) := ⟨_, rfl⟩
        have HFI := Lib.hid (fun W => isFinite_any (farF (P.getD k (0, 0)) (rul P r).1) W)
        rw [HNN.out.1.fin] at HFI
        have HSTE := Lib.hid hst
        rw [← hat2, ← hpl] at HS1 HL1 HRE HFI
        rw [← hpl] at hcl
        rw [← hst] at hbd ⊢
        rw [← hat2]
        obtain ⟨lv, hlv⟩ : ∃ v, v = cvP pl := ⟨_, rfl⟩
        rw [← hlv] at hcl HS1
        obtain ⟨av, hav⟩ : ∃ v, v = cvP at_ := ⟨_, rfl⟩
        rw [← hav] at HS1 ⊢
        obtain ⟨re, hre⟩ : ∃ x, x = farF pl at_ := ⟨_, rfl⟩
        rw [← hre] at HL1 HRE HFI
        have hkm : (k : Int) < (k : Int) + 1 := by omega
        clear hT hat hst hat2 hpl hlv hav hre HNN
        go_wp2_with fail
        refine (HS1.out _).mono ?_
        rintro e w' ⟨rfl, hw⟩
        rw [hw]
        clear hw w'
        go_wp2_with fail
        refine (HL1.out _).mono ?_
        rintro e w' ⟨rfl, hq2⟩
        have HQ2 := Lib.hid (drw_trans HWR.out hq2)
        clear hq2
        go_wp2_with fail
        refine (HFI.out _).mono ?_
        rintro e w' ⟨rfl, hq2⟩
        have HQ3 := Lib.hid (drw_trans HQ2.out hq2)
        clear hq2
        go_wp2
        go_ret3
        rw [HRE.out, ← HSTE.out]
        exact ⟨rfl, below_drw B2.out HQ3.out⟩
  · have hc2 : ¬ c - 1 = 0 := by omega
    have hc3 : (m : Int) + 1 ≤ (c : Int) := by omega
    go_wp2_with fail
    clear hc0'
    go_loopw [7, 8, 10, 36] (fun a s _ i wr => ∃ k : Nat, k ≤ m ∧ i = .int .i64 k ∧ a = cvP ((P.tail.take k).foldl (rlS r) (p0, 0)).1 ∧ s = .int .i64 (((P.tail.take k).foldl (rlS r) (p0, 0)).2 : Int) ∧ ∃ mm, wr = w2.drewN mm) (fun _ _ _ i _ => m - (intOf i).toNat)
    case atStart => exact ⟨0, Nat.zero_le _, rfl, rfl, rfl, 0, rfl⟩
    case round =>
      obtain ⟨k, hk, rfl, rfl, rfl, hwr⟩ := hrel
      have R4 := Lib.hid (rd_drw R2.out hwr)
      have HWR := Lib.hid hwr
      clear hwr
      by_cases hlt : k < m
      · have hka : k < P.tail.length := by rw [HTL.out]; exact hlt
        have hc : wr.cell? ⟨g, 1 + k, none⟩ = some (cvP P.tail[k]) := by
          have h := tail_cell R4.out hka
          rw [add_add_off] at h
          simpa [Addr.add] using h
        have hpt := HTP.out _ (List.getElem_mem hka)
        have HST := Lib.hid (foldC_take (g := rlS r) (b := (p0, 0)) hka)
        have hat := (rl_pt (r := r) (P.tail.take k) (p0, 0) (fun p hp => HTP.out p (List.mem_of_mem_take hp)) HPT0.out)
        have hbd : ((P.tail.take k).foldl (rlS r) (p0, 0)).2 ≤ 256 := by have := hat.2; rw [List.length_take] at this; simp at this; omega
        obtain ⟨p, hp⟩ : ∃ p, p = P.tail[k] := ⟨_, rfl⟩
        rw [← hp] at hc hpt HST
        have HS1 := Lib.hid (HS.out _ _ hpt hat.1)
        have HL1 := Lib.hid (HL.out _ _ hpt hat.1)
        obtain ⟨sA, hsA⟩ : ∃ x, x = (P.tail.take k).foldl (rlS r) (p0, 0) := ⟨_, rfl⟩
        rw [← hsA] at HST HS1 HL1 hbd ⊢
        obtain ⟨at_, st⟩ := sA
        have HRS : Hid (rlS r (at_, st) p = if geF (farF p at_) r = true then (p, st + 1) else (at_, st)) := Lib.hid rfl
        have HFR : Hid (geF (farF p at_) r = (FloatKind.f32.format.order (farF p at_) r == some .gt || FloatKind.f32.format.order (farF p at_) r == some .eq)) := Lib.hid rfl
        dsimp only at HS1 HL1 hbd ⊢
        have HPV : Hid (cvP p = cvP p) := Lib.hid rfl
        obtain ⟨pv, hpv⟩ : ∃ v, v = cvP p := ⟨_, rfl⟩
        have HPVE := Lib.hid hpv
        rw [← hpv] at hc HS1
        obtain ⟨av, hav⟩ : ∃ v, v = cvP at_ := ⟨_, rfl⟩
        have HAVE := Lib.hid hav
        rw [← hav] at HS1 ⊢
        obtain ⟨f, hf⟩ : ∃ f, f = farF p at_ := ⟨_, rfl⟩
        rw [← hf] at HL1 HRS HFR
        have hkm : (k : Int) < (m : Int) := by omega
        clear hp hpv hav hf hpt hka hat hsA HPV
        cases hle : geF f r
        · have ho := HFR.out.symm.trans hle
          have HST2 : Hid ((P.tail.take (k + 1)).foldl (rlS r) (p0, 0) = (at_, st)) := Lib.hid (by rw [HST.out, HRS.out, hle]; rfl)
          clear HST hle HFR HRS
          go_wp2_with fail
          refine (HS1.out _).mono ?_
          rintro e w' ⟨rfl, hw⟩
          rw [hw]
          clear hw w'
          go_wp2_with fail
          refine (HL1.out _).mono ?_
          rintro e w' ⟨rfl, hq2⟩
          have HQ2 := Lib.hid (drw_trans HWR.out hq2)
          clear hq2 hc
          go_wp2
          go_roundw
          case rel => exact ⟨k + 1, by omega, by go_num, by rw [HST2.out, HAVE.out], by rw [HST2.out], HQ2.out⟩
          case measure => simp [intOf]; omega
        · have ho := HFR.out.symm.trans hle
          have HST2 : Hid ((P.tail.take (k + 1)).foldl (rlS r) (p0, 0) = (p, st + 1)) := Lib.hid (by rw [HST.out, HRS.out, hle]; rfl)
          clear HST hle HFR HRS
          go_wp2_with fail
          refine (HS1.out _).mono ?_
          rintro e w' ⟨rfl, hw⟩
          rw [hw]
          clear hw w'
          go_wp2_with fail
          refine (HL1.out _).mono ?_
          rintro e w' ⟨rfl, hq2⟩
          have HQ2 := Lib.hid (drw_trans HWR.out hq2)
          clear hq2 hc
          go_wp2
          go_roundw
          case rel => exact ⟨k + 1, by omega, by go_num, by rw [HST2.out, HPVE.out], by rw [HST2.out]; go_num, HQ2.out⟩
          case measure => simp [intOf]; omega
      · obtain rfl : k = m := by omega
        have hT : P.tail.take k = P.tail := List.take_of_length_le (by rw [HTL.out]; omega)
        rw [hT]
        have HRU : Hid (rul P r = P.tail.foldl (rlS r) (p0, 0)) := Lib.hid (by rw [HP0.out]; rfl)
        rw [← HRU.out]
        obtain ⟨ad', had, hcl⟩ := pts_cell R4.out gk2
        cases had
        rw [HE.out.2] at hcl
        replace hcl : wr.cell? ⟨g, k, none⟩ = some (cvP (P.getD k (0, 0))) := by rw [addr_z] at hcl; exact hcl
        have hat := (rl_pt (r := r) P.tail (p0, 0) HTP.out HPT0.out)
        rw [← HRU.out] at hat
        have hbd : (rul P r).2 ≤ 256 := by have := hat.2; rw [HTL.out] at this; simp at this; omega
        have HS1 := Lib.hid (HS.out _ _ HG.out.2 hat.1)
        have HL1 := Lib.hid (HL.out _ _ HG.out.2 hat.1)
        have HNN := Lib.hid (far_nn HG.out.2 hat.1)
        have HRE : Hid (rest P r = farF (P.getD k (0, 0)) (rul P r).1) := Lib.hid (by unfold rest; rw [show P.length - 1 = k by rw [HP.out.len]; rfl])
        obtain ⟨st, hst⟩ : ∃ x, x = (rul P r).2 := ⟨_, rfl⟩
        obtain ⟨at_, hat2⟩ : ∃ x, x = (rul P r).1 := ⟨_, rfl⟩
        obtain ⟨pl, hpl⟩ : ∃ x, x = P.getD k (0, 0) := ⟨_, rfl⟩
        have HFI := Lib.hid (fun W => isFinite_any (farF (P.getD k (0, 0)) (rul P r).1) W)
        rw [HNN.out.1.fin] at HFI
        have HSTE := Lib.hid hst
        rw [← hat2, ← hpl] at HS1 HL1 HRE HFI
        rw [← hpl] at hcl
        rw [← hst] at hbd ⊢
        rw [← hat2]
        obtain ⟨lv, hlv⟩ : ∃ v, v = cvP pl := ⟨_, rfl⟩
        rw [← hlv] at hcl HS1
        obtain ⟨av, hav⟩ : ∃ v, v = cvP at_ := ⟨_, rfl⟩
        rw [← hav] at HS1 ⊢
        obtain ⟨re, hre⟩ : ∃ x, x = farF pl at_ := ⟨_, rfl⟩
        rw [← hre] at HL1 HRE HFI
        have hkm : (k : Int) < (k : Int) + 1 := by omega
        clear hT hat hst hat2 hpl hlv hav hre HNN
        go_wp2_with fail
        refine (HS1.out _).mono ?_
        rintro e w' ⟨rfl, hw⟩
        rw [hw]
        clear hw w'
        go_wp2_with fail
        refine (HL1.out _).mono ?_
        rintro e w' ⟨rfl, hq2⟩
        have HQ2 := Lib.hid (drw_trans HWR.out hq2)
        clear hq2
        go_wp2_with fail
        refine (HFI.out _).mono ?_
        rintro e w' ⟨rfl, hq2⟩
        have HQ3 := Lib.hid (drw_trans HQ2.out hq2)
        clear hq2
        go_wp2
        go_ret3
        rw [HRE.out, ← HSTE.out]
        exact ⟨rfl, below_drw B2.out HQ3.out⟩
end Go.Proofs.Ytikleaiflmoffaa
