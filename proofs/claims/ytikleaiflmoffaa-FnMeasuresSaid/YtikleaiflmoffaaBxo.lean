/- How many boxes of a size, of sizes, and how many points they have. -/
import Derived.Test.YtikleaiflmoffaaBxs
namespace Go.Proofs.Ytikleaiflmoffaa
open Ieee Go.RowKit
/-- how many boxes -/
def nB (P : List (Int × Int)) (d : Int) : Nat := (disL (P.map (bq d))).length
/-- a size y: its boxes are told by d -/
structure Sz (y : Nat) (d : Int) : Prop where
  fin : finB y = true
  pos : gtB y = true
  bx : ∀ a : Int, -16 ≤ a → a ≤ 16 → BxOk (eZ a) y (a / d)
set_option maxRecDepth 100000 in
theorem boxesOf_any (A : Option Addr) (n c y : Nat) (P : List (Int × Int)) (d : Int) (w : World) (hP : Pts P n) (hm : n ≤ 100) (hy : Sz y d) (hr : Rd w w.heap.size A (P.map cvP)) :
    Calls Try.prog 7 #[.slice A n c, .float .f32 y] w fun e w' => e = .returned (.tuple #[.int .i64 (nB P d : Int), .bool true]) ∧ Below w.heap.size w w' := by
  have H := Lib.hid (boxes_any A n c y P d w hP hm hy.fin hy.pos hy.bx hr)
  clear hP hr hy
  go_enter Try.func7, Try.ntmps7
  go_wp2_with fail
  refine H.out.mono ?_
  rintro e w1 ⟨⟨g1, c1, g2, c2, C, rfl, _, _⟩, hb⟩
  have HB := Lib.hid hb
  clear hb
  go_wp2
  go_ret2
  exact ⟨rfl, HB.out⟩
set_option maxRecDepth 100000 in
theorem boxMasses_any (A : Option Addr) (n c y : Nat) (P : List (Int × Int)) (d : Int) (w : World) (hP : Pts P n) (h1 : 1 ≤ n) (hm : n ≤ 100) (hy : Sz y d) (hr : Rd w w.heap.size A (P.map cvP)) :
    Calls Try.prog 8 #[.slice A n c, .float .f32 y] w fun e w' => (∃ (g2 c2 : Nat) (C : List Int), e = .returned (.tuple #[.slice (some ⟨g2, 0, none⟩) (nB P d) c2, .bool true]) ∧ Cnt C (nB P d) n ∧ w'.ownsRow w.heap.size 2 1 (.slice (some ⟨g2, 0, none⟩) (nB P d) c2) (nB P d) (C.map (Value.int .i64))) ∧ Below w.heap.size w w' := by
  have H := Lib.hid (boxes_any A n c y P d w hP hm hy.fin hy.pos hy.bx hr)
  have hn0 : ((n : Int) == 0) = false := by rw [beq_eq_false_iff_ne]; omega
  have hm0 : ¬ (n : Int) = 0 := by omega
  have hk0 : ¬ n = 0 := by omega
  clear hP hr hy
  go_enter Try.func8, Try.ntmps8
  go_wp2_with fail
  refine H.out.mono ?_
  rintro e w1 ⟨⟨g1, c1, g2, c2, C, rfl, hC, ho⟩, hb⟩
  have HB := Lib.hid hb
  have HC := Lib.hid hC
  have HO := Lib.hid ho
  clear hb hC ho H
  go_wp2
  go_ret2
  exact ⟨⟨g2, c2, C, rfl, HC.out, HO.out⟩, HB.out⟩
set_option maxRecDepth 100000 in
set_option maxHeartbeats 4000000 in
theorem boxesOfSizes_any (A A' : Option Addr) (n c m c' : Nat) (P : List (Int × Int)) (ys : List Nat) (ds : List Int) (w : World) (hP : Pts P n) (hm : n ≤ 100) (hl : ys.length = m) (hl2 : ds.length = m) (hm2 : m ≤ 100) (hy : ∀ i (h : i < ys.length) (h' : i < ds.length), Sz ys[i] ds[i]) (hr : Rd w w.heap.size A (P.map cvP)) (hr' : Rd w w.heap.size A' (ys.map (Value.float .f32))) :
    Calls Try.prog 9 #[.slice A n c, .slice A' m c'] w fun e w' => (∃ (A2 : Option Addr) (c2 : Nat), e = .returned (.tuple #[.slice A2 m c2, .bool true]) ∧ w'.ownsRow w.heap.size 27 1 (.slice A2 m c2) m ((ds.map fun d => floatOfInt .f32 (nB P d : Int)).map (Value.float .f32))) ∧ Below w.heap.size w w' := by
  obtain ⟨i0, hi, hz0, hz1, hz2⟩ := info_parts Try.info27
  have HA := Lib.hid (arePoints_any A n c P w hP (by omega) hr)
  have HBO := Lib.hid (fun W (y : Nat) (d : Int) (h : Sz y d) r => boxesOf_any A n c y P d W hP hm h r)
  have hcv := fun (z : Int) (W : World) => run_convert_int_float (P := Try.prog) W 2 27 .i64 .f32 z (by rw [Try.underlying2]; rfl) Try.und27
  have HY := Lib.hid hy
  have HL := Lib.hid (And.intro hl hl2)
  have Hr := Lib.hid hr
  have Hr' := Lib.hid hr'
  have hm3 : ¬ (256 : Int) < (m : Int) := by omega
  clear hP hr hr' hy hl hl2
  go_enter Try.func9, Try.ntmps9
  go_wp2_with fail
  refine HA.out.mono ?_
  rintro e w1 ⟨rfl, hb1⟩
  have B1 := Lib.hid hb1
  have hsz := hb1.size
  have HN := Lib.hid (own_nilF w1 27 w.heap.size hsz)
  have HB0 := Lib.hid (B1.out.alloc hsz (.cells #[] 27))
  clear hb1 HA
  go_wp2_with fail
  go_loopw [6, 8, 9, 10, 22] (fun v _ _ _ i wr => ∃ (k : Nat) (ls : List Nat), k ≤ m ∧ i = .int .i64 k ∧ Hid (ls.length = k) ∧ Hid (ls = (ds.take k).map fun d => floatOfInt .f32 (nB P d : Int)) ∧ wr.ownsRow w.heap.size 27 1 v ls.length (ls.map (Value.float .f32)) ∧ Below w.heap.size w wr) (fun _ _ _ _ i _ => m - (intOf i).toNat)
  case atStart => exact ⟨0, [], Nat.zero_le _, rfl, Lib.hid rfl, Lib.hid rfl, HN.out, HB0.out⟩
  case round =>
    obtain ⟨k, ls, hk, rfl, HLL, HLS, hv, hb⟩ := hrel
    have HV := Lib.hid hv
    have HB := Lib.hid hb
    have hwz := hb.size
    clear hv hb HN HB0
    obtain ⟨Av, cv, rfl, hrv⟩ := shapeOf HV.out
    clear hrv
    by_cases hlt : k < m
    · have hky : k < ys.length := by rw [HL.out.1]; exact hlt
      have hkd : k < ds.length := by rw [HL.out.2]; exact hlt
      obtain ⟨ad, rfl, _, hc⟩ := (Hr'.out.below HB.out).at_ (k := k) (by rw [List.length_map]; exact hky)
      rw [List.getElem_map] at hc
      have hsz1 := HY.out k hky hkd
      have HC := Lib.hid (fun W (h : W = wr) => HBO.out W _ _ hsz1 (by subst h; exact (Hr.out.below HB.out).more HB.out.size))
      have HST : Hid ((ds.take (k + 1)).map (fun d => floatOfInt .f32 (nB P d : Int)) = ls ++ [floatOfInt .f32 (nB P ds[k] : Int)]) := Lib.hid (by
        rw [List.take_succ_eq_append_getElem hkd, List.map_append, HLS.out]; rfl)
      obtain ⟨y, hy⟩ : ∃ y, y = ys[k] := ⟨_, rfl⟩
      rw [← hy] at hc HC
      obtain ⟨q, hq⟩ : ∃ q, q = nB P ds[k] := ⟨_, rfl⟩
      rw [← hq] at HC HST
      have hkm : (k : Int) < (m : Int) := by omega
      have hl100 : ls.length ≤ 100 := by rw [HLL.out]; omega
      clear hy hq hsz1 hky hkd
      go_wp2_with fail
      refine (HC.out _ rfl).mono ?_
      rintro e w3 ⟨rfl, hb3⟩
      have HV3 := Lib.hid (own_next HV.out hb3)
      have HB3 := Lib.hid (bthen HB.out hb3)
      have hwz3 := HB3.out.size
      clear hb3 HV HB HC hc
      go_wp2_with (at_builtin; go_must (refine wpList_append_own_at _ rfl (.tmp 34) (.tmp 37) 33 rfl w.heap.size 27 i0 (.float .f32 0) 1 4 Try.underlying33 hi hz0 hz1 hz2 rfl (by decide) _ _ _ rfl (HV3.out.alloc _) ⟨w3.heap.size, 0, none⟩ 1 1 [.float .f32 (floatOfInt .f32 (q : Int))] rfl rfl (newOne w3 _ 27) (oneF _ _) ?_ ?_ ?_ ?_))
      · unfold maxLen; omega
      · omega
      · simp; omega
      intro v' w7 hown' hgrow _ hat'
      have HV7 := Lib.hid (own_appF hown')
      have HB7 := Lib.hid ((HB3.out.alloc hwz3 (.cells #[.float .f32 (floatOfInt .f32 (q : Int))] 27)).grown hgrow (by simp; omega) (fun q hq => (HV3.out.lt q hq).1))
      have HL7 : Hid ((ls ++ [floatOfInt .f32 (q : Int)]).length = k + 1) := Lib.hid (by rw [List.length_append, HLL.out]; rfl)
      clear hown' hgrow hat'
      go_wp2_with fail
      go_roundw
      case rel => exact ⟨k + 1, ls ++ [floatOfInt .f32 (q : Int)], by omega, by go_num, HL7, Lib.hid HST.out.symm, HV7.out, HB7.out⟩
      case measure => simp [intOf]; omega
    · obtain rfl : k = m := by omega
      have els := HLS.out
      rw [List.take_of_length_le (by rw [HL.out.2]; exact Nat.le_refl _)] at els
      have HF := Lib.hid HV.out
      rw [HLL.out, els] at HF
      rw [HLL.out]
      go_wp2
      go_ret2
      exact ⟨⟨Av, cv, rfl, HF.out⟩, HB.out⟩
end Go.Proofs.Ytikleaiflmoffaa
