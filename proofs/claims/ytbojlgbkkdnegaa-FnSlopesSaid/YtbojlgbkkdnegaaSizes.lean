/- SizesOf, from 4 by halves. -/
import Derived.Test.YtbojlgbkkdnegaaStairs
import Derived.Test.YtbojlgbkkdnegaaRosI
namespace Go.Proofs.Ytbojlgbkkdnegaa
open Ieee Go.RowKit
def szF : Nat → Nat
  | 0 => 1082130432
  | j + 1 => fop .mul .f32 (szF j) 1056964608
theorem szF_is {j : Nat} (h : j < 32) : floatBits .mul .f32 (szF j) 1056964608 = some (szF (j + 1)) ∧ finB (szF j) = true := by
  have h1 := all_lt (p := fun j => (floatBits .mul .f32 (szF j) 1056964608 == some (szF (j + 1))) && finB (szF j)) (n := 32) (by decide +kernel) h
  simpa using h1
def szL (n : Nat) : List Nat := (List.range n).map szF
theorem szL_len (n : Nat) : (szL n).length = n := by simp [szL]
theorem szL_snoc (n : Nat) : szL (n + 1) = szL n ++ [szF n] := by simp [szL, List.range_succ]
theorem szL_get {n j : Nat} (h : j < (szL n).length) : (szL n)[j] = szF j := by simp [szL]
theorem szL_fin {n : Nat} (h : n ≤ 32) : finL (szL n) = true := by
  unfold finL
  have h2 : ((szL n).any fun x => !finB x) = false := by
    rw [List.any_eq_false]
    intro x hx
    obtain ⟨j, hj, rfl⟩ := List.mem_map.1 hx
    rw [List.mem_range] at hj
    rw [(szF_is (j := j) (by omega)).2]; simp
  rw [h2]; rfl
set_option maxRecDepth 100000 in
set_option maxHeartbeats 4000000 in
theorem sizesOf_any (n : Nat) (w : World) (h1 : 1 ≤ n) (h2 : n ≤ 32) :
    Calls Try.prog 17 #[.float .f32 1082130432, .float .f32 1056964608, .int .i64 n] w fun e w' => (∃ A c, e = .returned (.tuple #[.slice A n c, .bool true]) ∧ w'.ownsRow w.heap.size 25 1 (.slice A n c) n ((szL n).map (Value.float .f32))) ∧ Below w.heap.size w w' := by
  obtain ⟨i0, hi, hz0, hz1, hz2⟩ := info_parts Try.info25
  have HF1 := Lib.hid (isFinite_any 1082130432 w)
  rw [show finB 1082130432 = true by decide +kernel] at HF1
  have HF2 := Lib.hid (fun W => isFinite_any 1056964608 W)
  rw [show finB 1056964608 = true by decide +kernel] at HF2
  have hin : inB n 1 32 = true := by simp [inB]; omega
  have HW := Lib.hid (fun W => within_any n 1 32 W)
  rw [hin] at HW
  have o1 : (FloatKind.f32.format.order 1082130432 0 == some .gt) = true := by decide +kernel
  have o2 : (FloatKind.f32.format.order 1056964608 0 == some .gt) = true := by decide +kernel
  clear hin
  go_enter Try.func17, Try.ntmps17
  go_wp2_with fail
  refine HF1.out.mono ?_
  rintro e w1 ⟨rfl, m1, rfl⟩
  go_wp2_with fail
  refine (HF2.out _).mono ?_
  rintro e w2 ⟨rfl, m2, rfl⟩
  go_wp2_with fail
  refine (HW.out _).mono ?_
  rintro e w3 ⟨rfl, rfl⟩
  obtain ⟨w4, hw4⟩ : ∃ x, x = w.drewN (m1 + m2) := ⟨_, rfl⟩
  have HB4 : Hid (Below w.heap.size w w4) := Lib.hid (by rw [hw4]; exact below_drewN (Below.refl _ _) _)
  have hz4 := HB4.out.size
  rw [← hw4]
  clear hw4 HF1 HF2 HW
  have HN := Lib.hid (own_oneF w4 25 1082130432 w.heap.size hz4)
  go_wp2_with fail
  go_loopw [8, 36] (fun v i wr => ∃ (j : Nat) (ls : List Nat), j + 1 ≤ n ∧ i = .int .i64 j ∧ Hid (ls = szL (j + 1)) ∧ wr.ownsRow w.heap.size 25 1 v ls.length (ls.map (Value.float .f32)) ∧ Below w.heap.size w wr) (fun _ i _ => n - (intOf i).toNat)
  case atStart => exact ⟨0, [1082130432], by omega, rfl, Lib.hid rfl, HN.out, HB4.out.trans ((below_new _ _).mono hz4)⟩
  case round =>
    obtain ⟨j, ls, hj, rfl, HL, hv, hb⟩ := hrel
    have HV := Lib.hid hv
    have HB := Lib.hid hb
    have hwz := hb.size
    clear hv hb
    have hll : ls.length = j + 1 := by rw [HL.out, szL_len]
    obtain ⟨Av, cv, rfl, hrv⟩ := shapeOf HV.out
    by_cases hlt : j + 1 < n
    · obtain ⟨ad, rfl, _, hc⟩ := hrv.at_ (k := j) (by rw [List.length_map, hll]; omega)
      have hlj : ls[j]'(by omega) = szF j := by have h := HL.out; subst h; exact szL_get _
      rw [List.getElem_map, hlj] at hc
      have g := run_num (P := Try.prog) (szF_is (j := j) (by omega)).1
      have HS : Hid (ls ++ [szF (j + 1)] = szL (j + 1 + 1)) := Lib.hid (by rw [HL.out, ← szL_snoc])
      obtain ⟨q, hq⟩ : ∃ q, q = ls.length := ⟨_, rfl⟩
      have hq1 : (q : Int) - 1 = (j : Int) := by omega
      have hq2 : IntKind.i64.wrap (j : Int) = (j : Int) := by rw [IntKind.wrap_i64]; omega
      have hq3 : (j : Int) < (q : Int) := by omega
      have hq4 : q ≤ 32 := by omega
      have hjn : (j : Int) < (n : Int) - 1 := by omega
      rw [← hq] at HV ⊢
      have HQ := Lib.hid hq
      clear hq hll hlj hrv
      go_wp2_with (at_builtin; go_must (refine wpList_append_own_at _ rfl (.tmp 38) (.tmp 47) 26 rfl w.heap.size 25 i0 (.float .f32 0) 1 4 Try.underlying26 hi hz0 hz1 hz2 rfl (by decide) _ _ _ rfl (HV.out.alloc _) ⟨wr.heap.size, 0, none⟩ 1 1 [.float .f32 (szF (j + 1))] rfl rfl (newOne wr _ 25) (oneF _ _) ?_ ?_ ?_ ?_))
      · unfold maxLen; omega
      · omega
      · simp; omega
      intro v' w7 hown' hgrow _ hat'
      have HV7 := Lib.hid (own_appF (by rw [HQ.out] at hown'; exact hown'))
      have HB7 := Lib.hid ((HB.out.alloc hwz (.cells #[.float .f32 (szF (j + 1))] 25)).grown hgrow (by simp; omega) (fun q hq => (HV.out.lt q hq).1))
      clear hown' hgrow hat'
      go_wp2_with fail
      go_roundw
      case rel => exact ⟨j + 1, ls ++ [szF (j + 1)], by omega, by go_num, HS, HV7.out, HB7.out⟩
      case measure => simp [intOf]; omega
    · obtain rfl : n = j + 1 := by omega
      have els := HL.out
      have HF := Lib.hid HV.out
      rw [els, szL_len] at HF ⊢
      rw [els] at hrv
      have HA := Lib.hid (areFinite_any Av (j + 1) cv (szL (j + 1)) wr (szL_len _) (by omega) hrv)
      rw [szL_fin h2] at HA
      clear hrv els hll HV
      go_wp2_with fail
      refine HA.out.mono ?_
      rintro e w8 ⟨rfl, hb8⟩
      have HF8 := Lib.hid (own_next HF.out hb8)
      have HB8 := Lib.hid (bthen HB.out hb8)
      clear hb8
      go_wp2
      go_ret2
      exact ⟨⟨Av, cv, rfl, HF8.out⟩, HB8.out⟩
end Go.Proofs.Ytbojlgbkkdnegaa
