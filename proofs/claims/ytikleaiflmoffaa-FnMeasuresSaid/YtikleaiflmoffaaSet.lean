/- How far the nearest point is; how far two lists are from one another. -/
import Derived.Test.YtikleaiflmoffaaMin
namespace Go.Proofs.Ytikleaiflmoffaa
open Ieee Go.RowKit
def nrS (z : Int × Int) (f : Nat) (p : Int × Int) : Nat := if ltF (farF z p) f = true then farF z p else f
/-- how far the nearest of points is -/
def nearF (P : List (Int × Int)) (z : Int × Int) : Nat := P.foldl (nrS z) (farF z (P.getD 0 (0, 0)))
def NN (x : Nat) : Prop := Is .f32 x ∧ 0 ≤ vl .f32 x
theorem far_nn {p q : Int × Int} (hp : Pt p) (hq : Pt q) : NN (farF p q) := ⟨(far_ok hp hq).is, (far_ok hp hq).ge⟩
theorem nr_nn {z : Int × Int} (hz : Pt z) : ∀ (P : List (Int × Int)) (f : Nat), (∀ p ∈ P, Pt p) → NN f → NN (P.foldl (nrS z) f) := by
  intro P
  induction P with
  | nil => intro f _ hf; exact hf
  | cons p P ih =>
    intro f h hf
    refine ih _ (fun q hq => h q (List.mem_cons_of_mem _ hq)) ?_
    unfold nrS
    split
    · exact far_nn hz (h p List.mem_cons_self)
    · exact hf
theorem near_nn {P : List (Int × Int)} {n : Nat} {z : Int × Int} (hP : Pts P n) (h1 : 1 ≤ n) (hz : Pt z) : NN (nearF P z) := by
  refine nr_nn hz P _ hP.pt (far_nn hz (hP.pt _ ?_))
  have := hP.len
  cases P with
  | nil => simp at this; omega
  | cons p P => simp
theorem foldC_take {α β : Type} {g : β → α → β} {b : β} {xs : List α} {k : Nat} (h : k < xs.length) : (xs.take (k + 1)).foldl g b = g ((xs.take k).foldl g b) xs[k] := by
  rw [List.take_succ_eq_append_getElem h, List.foldl_append]
  rfl
theorem cell_zero {w : World} {ad : Addr} {v : Value} (h : w.cell? (ad.add 0) = some v) : w.cell? ad = some v := by simpa [Addr.add] using h
set_option maxRecDepth 100000 in
set_option maxHeartbeats 4000000 in
theorem nearest_any (A : Option Addr) (n c B : Nat) (P : List (Int × Int)) (z : Int × Int) (w : World) (hP : Pts P n) (h1 : 1 ≤ n) (hm : n ≤ 256) (hz : Pt z) (hr : Rd w B A (P.map cvP)) :
    Calls Try.prog 27 #[.slice A n c, cvP z] w fun e w' => (∃ b, e = .returned (.tuple #[.int .i64 b, .float .f32 (nearF P z)])) ∧ ∃ m, w' = w.drewN m := by
  have hl : 0 < P.length := by rw [hP.len]; omega
  obtain ⟨ad, rfl, hc0⟩ := pts_cell hr hl
  have hc0' := cell_zero hc0
  have HS := Lib.hid (fun (p : Int × Int) (hp : Pt p) W => sub_any z p W hz hp)
  have HL := Lib.hid (fun (p : Int × Int) (hp : Pt p) W => longSub_any z p W hz hp)
  have hp0 := hP.get hl
  have HS0 := Lib.hid (HS.out _ hp0)
  have HL0 := Lib.hid (HL.out _ hp0)
  have HN : Hid (nearF P z = P.foldl (nrS z) (farF z P[0])) := Lib.hid (by
    unfold nearF
    rw [List.getD_eq_getElem?_getD, List.getElem?_eq_getElem hl]; rfl)
  obtain ⟨f0, hf0⟩ : ∃ f, f = farF z P[0] := ⟨_, rfl⟩
  rw [← hf0] at HN HL0
  obtain ⟨p0, hp0e⟩ : ∃ p, p = P[0] := ⟨_, rfl⟩
  rw [← hp0e] at hc0 hc0' HS0 HL0
  obtain ⟨pv0, hpv0⟩ : ∃ v, v = cvP p0 := ⟨_, rfl⟩
  rw [← hpv0] at hc0 hc0' HS0
  have HP := Lib.hid hP
  have Hr := Lib.hid hr
  obtain ⟨zv, hzv⟩ : ∃ v, v = cvP z := ⟨_, rfl⟩
  rw [← hzv] at HS HS0 ⊢
  have hn0 : (0 : Int) < (n : Int) := by omega
  clear hP hr hp0 hf0 hp0e hpv0 hzv hl
  go_enter Try.func27, Try.ntmps27
  go_wp2_with fail
  refine (HS0.out _).mono ?_
  rintro e w' ⟨rfl, hw⟩
  rw [hw]
  clear hw w'
  go_wp2_with fail
  refine (HL0.out _).mono ?_
  rintro e w' ⟨rfl, hq⟩
  have HQ := Lib.hid hq
  clear hq hc0 hc0' HS0 HL0 hn0
  go_wp2_with fail
  go_loopw [6, 7, 8, 9, 10, 19] (fun b f _ _ _ i wr => ∃ (k : Nat) (bb : Int), k ≤ n ∧ i = .int .i64 k ∧ b = .int .i64 bb ∧ f = .float .f32 ((P.take k).foldl (nrS z) f0) ∧ ∃ m, wr = w.drewN m) (fun _ _ _ _ _ i _ => n - (intOf i).toNat)
  case atStart => exact ⟨0, 0, Nat.zero_le _, rfl, rfl, rfl, HQ.out⟩
  case round =>
    obtain ⟨k, bb, hk, rfl, rfl, rfl, hwr⟩ := hrel
    have R4 := Lib.hid (rd_drw Hr.out hwr)
    have HWR := Lib.hid hwr
    clear hwr
    by_cases hlt : k < n
    · have hka : k < P.length := by rw [HP.out.len]; exact hlt
      obtain ⟨ad', had, hc⟩ := pts_cell R4.out hka
      cases had
      have hpt := HP.out.get hka
      have HST := Lib.hid (foldC_take (g := nrS z) (b := f0) hka)
      obtain ⟨p, hp⟩ : ∃ p, p = P[k] := ⟨_, rfl⟩
      rw [← hp] at hc hpt HST
      have HS1 := Lib.hid (HS.out p hpt)
      have HL1 := Lib.hid (HL.out p hpt)
      obtain ⟨pv, hpv⟩ : ∃ v, v = cvP p := ⟨_, rfl⟩
      rw [← hpv] at hc HS1
      obtain ⟨g, hg⟩ : ∃ g, g = (P.take k).foldl (nrS z) f0 := ⟨_, rfl⟩
      rw [← hg] at HST ⊢
      have HNR : Hid (nrS z g p = if ltF (farF z p) g = true then farF z p else g) := Lib.hid rfl
      have HFR : Hid (ltF (farF z p) g = (FloatKind.f32.format.order (farF z p) g == some .lt)) := Lib.hid rfl
      obtain ⟨f, hf⟩ : ∃ f, f = farF z p := ⟨_, rfl⟩
      rw [← hf] at HL1 HNR HFR
      clear hp hpv hf hpt hka hg
      cases hle : ltF f g
      · have ho := HFR.out.symm.trans hle
        have HST2 : Hid ((P.take (k + 1)).foldl (nrS z) f0 = g) := Lib.hid (by rw [HST.out, HNR.out, hle]; rfl)
        clear HST hle HFR HNR
        go_wp2_with fail
        refine (HS1.out _).mono ?_
        rintro e w' ⟨rfl, hw⟩
        rw [hw]
        clear hw w'
        go_wp2_with fail
        refine (HL1.out _).mono ?_
        rintro e w' ⟨rfl, hq2⟩
        have HQ2 := Lib.hid (drw_trans HWR.out hq2)
        clear hq2 hc
        go_wp2
        go_roundw
        case rel => exact ⟨k + 1, bb, by omega, by go_num, rfl, by rw [HST2.out], HQ2.out⟩
        case measure => simp [intOf]; omega
      · have ho := HFR.out.symm.trans hle
        have HST2 : Hid ((P.take (k + 1)).foldl (nrS z) f0 = f) := Lib.hid (by rw [HST.out, HNR.out, hle]; rfl)
        clear HST hle HFR HNR
        go_wp2_with fail
        refine (HS1.out _).mono ?_
        rintro e w' ⟨rfl, hw⟩
        rw [hw]
        clear hw w'
        go_wp2_with fail
        refine (HL1.out _).mono ?_
        rintro e w' ⟨rfl, hq2⟩
        have HQ2 := Lib.hid (drw_trans HWR.out hq2)
        clear hq2 hc
        go_wp2
        go_roundw
        case rel => exact ⟨k + 1, (k : Int), by omega, by go_num, rfl, by rw [HST2.out], HQ2.out⟩
        case measure => simp [intOf]; omega
    · obtain rfl : k = n := by omega
      have hT : P.take k = P := List.take_of_length_le (by rw [HP.out.len]; omega)
      rw [hT, ← HN.out]
      clear hT
      go_wp2
      go_ret2
      exact ⟨⟨_, rfl⟩, HWR.out⟩
def stS (b : List (Int × Int)) (o : Nat) (z : Int × Int) : Nat := fmax .f32 o (nearF b z)
def setF (a b : List (Int × Int)) : Nat := b.foldl (stS a) (a.foldl (stS b) 0)
theorem fmax_nn {x y : Nat} (hx : NN x) (hy : NN y) : NN (fmax .f32 x y) := by
  obtain ⟨f1, f2, _⟩ := fmax_v hx.1 hy.1
  exact ⟨f1, by have := hx.2; grind⟩
theorem st_nn {b : List (Int × Int)} {n : Nat} (hb : Pts b n) (h1 : 1 ≤ n) : ∀ (a : List (Int × Int)) (o : Nat), (∀ p ∈ a, Pt p) → NN o → NN (a.foldl (stS b) o) := by
  intro a
  induction a with
  | nil => intro o _ ho; exact ho
  | cons p a ih =>
    intro o h ho
    exact ih _ (fun q hq => h q (List.mem_cons_of_mem _ hq)) (fmax_nn ho (near_nn hb h1 (h p List.mem_cons_self)))
theorem zero_nn : NN 0 := ⟨⟨_, _, _, rfl⟩, by decide +kernel⟩
theorem take_pts {P : List (Int × Int)} {n : Nat} (h : Pts P n) (k : Nat) : ∀ p ∈ P.take k, Pt p := fun p hp => h.pt p (List.mem_of_mem_take hp)
set_option maxRecDepth 100000 in
set_option maxHeartbeats 4000000 in
theorem setDistance_any (A A' : Option Addr) (n c n' c' : Nat) (P Q : List (Int × Int)) (w : World) (hP : Pts P n) (h1 : 1 ≤ n) (hm : n ≤ 256) (hQ : Pts Q n') (h1' : 1 ≤ n') (hm' : n' ≤ 256) (hr : Rd w w.heap.size A (P.map cvP)) (hr' : Rd w w.heap.size A' (Q.map cvP)) :
    Calls Try.prog 14 #[.slice A n c, .slice A' n' c'] w fun e w' => e = .returned (.tuple #[.float .f32 (setF P Q), .bool true]) ∧ Below w.heap.size w w' := by
  have HA := Lib.hid (arePoints_any A n c P w hP hm hr)
  have HA' := Lib.hid (fun W r => arePoints_any A' n' c' Q W hQ hm' r)
  have HE := Lib.hid (fun W (B : Nat) (r : Rd W B A' (Q.map cvP)) (z : Int × Int) (hz : Pt z) => nearest_any A' n' c' B Q z W hQ h1' hm' hz r)
  have HE' := Lib.hid (fun W (B : Nat) (r : Rd W B A (P.map cvP)) (z : Int × Int) (hz : Pt z) => nearest_any A n c B P z W hP h1 hm hz r)
  have HP := Lib.hid hP
  have HQ := Lib.hid hQ
  have Hr := Lib.hid hr
  have Hr' := Lib.hid hr'
  have H1 := Lib.hid (And.intro h1 h1')
  have hn0 : ((n : Int) == 0) = false := by rw [beq_eq_false_iff_ne]; omega
  have hn0' : ((n' : Int) == 0) = false := by rw [beq_eq_false_iff_ne]; omega
  have hm0 : ¬ (n : Int) = 0 := by omega
  have hm0' : ¬ (n' : Int) = 0 := by omega
  have hk0 : ¬ n = 0 := by omega
  have hk0' : ¬ n' = 0 := by omega
  clear hP hQ hr hr' h1 h1'
  go_enter Try.func14, Try.ntmps14
  go_wp2_with fail
  refine HA.out.mono ?_
  rintro e w1 ⟨rfl, hb1⟩
  have B1 := Lib.hid hb1
  have R1 := Lib.hid (Hr.out.next hb1)
  have R1' := Lib.hid (Hr'.out.next hb1)
  clear hb1 HA Hr Hr'
  go_wp2_with fail
  refine (HA'.out w1 R1'.out).mono ?_
  rintro e w2 ⟨rfl, hb2⟩
  have B2 := Lib.hid (bthen B1.out hb2)
  have R2 := Lib.hid (R1.out.next hb2)
  have R2' := Lib.hid (R1'.out.next hb2)
  clear hb2 HA' R1 R1' B1
  go_wp2_with fail
  go_loopw [6, 8, 9, 10, 35] (fun o _ _ _ i wr => ∃ k : Nat, k ≤ n ∧ i = .int .i64 k ∧ o = .float .f32 ((P.take k).foldl (stS Q) 0) ∧ ∃ m, wr = w2.drewN m) (fun _ _ _ _ i _ => n - (intOf i).toNat)
  case atStart => exact ⟨0, Nat.zero_le _, rfl, rfl, 0, rfl⟩
  case round =>
    obtain ⟨k, hk, rfl, rfl, hwr⟩ := hrel
    have R4 := Lib.hid (rd_drw R2.out hwr)
    have R4' := Lib.hid (rd_drw R2'.out hwr)
    have HWR := Lib.hid hwr
    clear hwr
    by_cases hlt : k < n
    · have hka : k < P.length := by rw [HP.out.len]; exact hlt
      obtain ⟨ad, rfl, hc⟩ := pts_cell R4.out hka
      have hpt := HP.out.get hka
      have HST := Lib.hid (foldC_take (g := stS Q) (b := 0) hka)
      have nn1 := st_nn HQ.out H1.out.2 _ 0 (take_pts HP.out k) zero_nn
      have nn2 := near_nn HQ.out H1.out.2 hpt
      have hmx := run_max_f (P := Try.prog) nn1.1 nn2.1
      have HE1 := Lib.hid (fun W (h : W = wr) => HE.out W _ (by subst h; exact R4'.out) P[k] hpt)
      have HSS : Hid (stS Q ((P.take k).foldl (stS Q) 0) P[k] = fmax .f32 ((P.take k).foldl (stS Q) 0) (nearF Q P[k])) := Lib.hid rfl
      obtain ⟨pv, hpv⟩ : ∃ v, v = cvP P[k] := ⟨_, rfl⟩
      rw [← hpv] at hc HE1
      obtain ⟨g, hg⟩ : ∃ g, g = (P.take k).foldl (stS Q) 0 := ⟨_, rfl⟩
      rw [← hg] at HST HSS hmx ⊢
      obtain ⟨f, hf⟩ : ∃ f, f = nearF Q P[k] := ⟨_, rfl⟩
      rw [← hf] at HSS hmx HE1
      have HST2 : Hid ((P.take (k + 1)).foldl (stS Q) 0 = fmax .f32 g f) := Lib.hid (by rw [HST.out, HSS.out])
      clear hpv hg hf nn1 nn2 hpt hka HST HSS
      go_wp2_with fail
      refine (HE1.out _ rfl).mono ?_
      rintro e w' ⟨⟨bb, rfl⟩, hq2⟩
      have HQ2 := Lib.hid (drw_trans HWR.out hq2)
      clear hq2 hc
      go_wp2
      go_roundw
      case rel => exact ⟨k + 1, by omega, by go_num, by rw [HST2.out], HQ2.out⟩
      case measure => simp [intOf]; omega
    · obtain rfl : k = n := by omega
      have hT : P.take k = P := List.take_of_length_le (by rw [HP.out.len]; omega)
      rw [hT]
      have nn0 := st_nn HQ.out H1.out.2 P 0 HP.out.pt zero_nn
      have HSE : Hid (setF P Q = Q.foldl (stS P) (P.foldl (stS Q) 0)) := Lib.hid rfl
      obtain ⟨o0, ho0⟩ : ∃ o, o = P.foldl (stS Q) 0 := ⟨_, rfl⟩
      rw [← ho0] at nn0 HSE ⊢
      have HN0 := Lib.hid nn0
      obtain ⟨w5, hw5⟩ : ∃ x, x = wr := ⟨_, rfl⟩
      rw [← hw5] at R4 R4' HWR ⊢
      have B5 := Lib.hid (below_drw B2.out HWR.out)
      clear hT ho0 nn0 hw5 HWR B2 R2 R2'
      go_wp2_with fail
      go_loopw [6, 12, 13, 14, 51] (fun o _ _ _ i wr => ∃ j : Nat, j ≤ n' ∧ i = .int .i64 j ∧ o = .float .f32 ((Q.take j).foldl (stS P) o0) ∧ ∃ m, wr = w5.drewN m) (fun _ _ _ _ i _ => n' - (intOf i).toNat)
      case atStart => exact ⟨0, Nat.zero_le _, rfl, rfl, 0, rfl⟩
      case round =>
        obtain ⟨j, hj, rfl, rfl, hwr⟩ := hrel
        have R6 := Lib.hid (rd_drw R4.out hwr)
        have R6' := Lib.hid (rd_drw R4'.out hwr)
        have HWR := Lib.hid hwr
        clear hwr
        by_cases hlj : j < n'
        · have hka : j < Q.length := by rw [HQ.out.len]; exact hlj
          obtain ⟨ad, rfl, hc⟩ := pts_cell R6'.out hka
          have hpt := HQ.out.get hka
          have HST := Lib.hid (foldC_take (g := stS P) (b := o0) hka)
          have nn1 := st_nn HP.out H1.out.1 _ o0 (take_pts HQ.out j) HN0.out
          have nn2 := near_nn HP.out H1.out.1 hpt
          have hmx := run_max_f (P := Try.prog) nn1.1 nn2.1
          have HE1 := Lib.hid (fun W (h : W = wr) => HE'.out W _ (by subst h; exact R6.out) Q[j] hpt)
          have HSS : Hid (stS P ((Q.take j).foldl (stS P) o0) Q[j] = fmax .f32 ((Q.take j).foldl (stS P) o0) (nearF P Q[j])) := Lib.hid rfl
          obtain ⟨pv, hpv⟩ : ∃ v, v = cvP Q[j] := ⟨_, rfl⟩
          rw [← hpv] at hc HE1
          obtain ⟨g, hg⟩ : ∃ g, g = (Q.take j).foldl (stS P) o0 := ⟨_, rfl⟩
          rw [← hg] at HST HSS hmx ⊢
          obtain ⟨f, hf⟩ : ∃ f, f = nearF P Q[j] := ⟨_, rfl⟩
          rw [← hf] at HSS hmx HE1
          have HST2 : Hid ((Q.take (j + 1)).foldl (stS P) o0 = fmax .f32 g f) := Lib.hid (by rw [HST.out, HSS.out])
          clear hpv hg hf nn1 nn2 hpt hka HST HSS
          go_wp2_with fail
          refine (HE1.out _ rfl).mono ?_
          rintro e w' ⟨⟨bb, rfl⟩, hq2⟩
          have HQ2 := Lib.hid (drw_trans HWR.out hq2)
          clear hq2 hc
          go_wp2
          go_roundw
          case rel => exact ⟨j + 1, by omega, by go_num, by rw [HST2.out], HQ2.out⟩
          case measure => simp [intOf]; omega
        · obtain rfl : j = n' := by omega
          have hT : Q.take j = Q := List.take_of_length_le (by rw [HQ.out.len]; omega)
          rw [hT]
          have nn3 := st_nn HP.out H1.out.1 Q o0 HQ.out.pt HN0.out
          rw [← HSE.out] at nn3 ⊢
          have B6 := Lib.hid (below_drw B5.out HWR.out)
          have HI := Lib.hid (fun W => ifNumber_any (setF P Q) (setF P Q) W (.refl _ _))
          have hfb := nn3.1.fin
          have hnv : numV (setF P Q) = setF P Q := by unfold numV; rw [hfb, if_pos rfl]
          rw [hfb, hnv] at HI
          obtain ⟨v, hv⟩ : ∃ v, v = setF P Q := ⟨_, rfl⟩
          rw [← hv] at HI ⊢
          have HV := Lib.hid hv
          clear hT nn3 hfb hnv hv
          go_wp2_with fail
          refine (HI.out _).mono ?_
          rintro e w' ⟨rfl, m9, rfl⟩
          go_wp2
          go_ret2
          rw [← HV.out]
          exact ⟨rfl, below_drewN B6.out _⟩
end Go.Proofs.Ytikleaiflmoffaa
