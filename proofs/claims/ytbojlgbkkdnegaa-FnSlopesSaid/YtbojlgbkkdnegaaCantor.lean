/- CantorSet, up to a depth of 6. -/
import Derived.Test.YtbojlgbkkdnegaaSizes
namespace Go.Proofs.Ytbojlgbkkdnegaa
open Ieee Go.RowKit
def lfF (x : Nat) : Nat := fop .quo .f32 x 1077936128
def rtF (x : Nat) : Nat := fop .add .f32 (lfF x) 1059760811
/-- the ends of the parts -/
def cL : Nat → List Nat
  | 0 => [0]
  | k + 1 => (cL k).map lfF ++ (cL k).map rtF
def stepOk (x : Nat) : Bool := (floatBits .quo .f32 x 1077936128 == some (lfF x)) && (floatBits .add .f32 (lfF x) 1059760811 == some (rtF x))
theorem cL_len (k : Nat) : (cL k).length = 2 ^ k := by
  induction k with
  | zero => rfl
  | succ k ih => unfold cL; rw [List.length_append, List.length_map, List.length_map, ih, Nat.pow_succ]; omega
theorem cL_all : ∀ k, k < 6 → (cL k).all stepOk = true := by
  intro k hk
  exact all_lt (p := fun k => (cL k).all stepOk) (n := 6) (by decide +kernel) hk
theorem cL_ok {k : Nat} (hk : k < 6) {x : Nat} (hx : x ∈ cL k) : floatBits .quo .f32 x 1077936128 = some (lfF x) ∧ floatBits .add .f32 (lfF x) 1059760811 = some (rtF x) := by
  have h := List.all_eq_true.1 (cL_all k hk) x hx
  unfold stepOk at h
  simpa using h
theorem take_mapF {f : Nat → Nat} {xs : List Nat} {j : Nat} (h : j < xs.length) : (xs.take (j + 1)).map f = (xs.take j).map f ++ [f xs[j]] := by
  rw [List.take_succ_eq_append_getElem h, List.map_append]; rfl
theorem fls_cells {w : World} {B : Nat} {e : TypeId} {A : Option Addr} {n c : Nat} {xs : List Value} (h : w.ownsRow B e 1 (.slice A n c) n xs) (h0 : 0 < n) : ∃ ad, A = some ad ∧ ∀ j u, xs[j]? = some u → w.cell? (ad.add j) = some u := by
  have hr := Rd.own h
  have hl := h.1
  rcases hr with h | ⟨ad, hA, _, hc⟩
  · rw [h] at hl; simp at hl; omega
  · exact ⟨ad, hA, hc⟩
theorem floats_one (ls : List Nat) : ∀ u ∈ ls.map (Value.float .f32), u.oneCell' = true := by
  intro u hu
  obtain ⟨x, _, rfl⟩ := List.mem_map.1 hu
  rfl
set_option maxRecDepth 100000 in
set_option maxHeartbeats 8000000 in
theorem cantorSet_any (n : Nat) (w : World) (h2 : n ≤ 6) :
    Calls Try.prog 23 #[.int .i64 n] w fun e w' => (∃ A c, e = .returned (.tuple #[.slice A (2 ^ n) c, .bool true]) ∧ w'.ownsRow w.heap.size 25 1 (.slice A (2 ^ n) c) (2 ^ n) ((cL n).map (Value.float .f32))) ∧ Below w.heap.size w w' := by
  obtain ⟨i0, hi, hz0, hz1, hz2⟩ := info_parts Try.info25
  have hin : inB n 0 8 = true := by simp [inB]; omega
  have HW := Lib.hid (within_any n 0 8 w)
  rw [hin] at HW
  clear hin
  have HN := Lib.hid (own_oneF w 25 0 w.heap.size (Nat.le_refl _))
  go_enter Try.func23, Try.ntmps23
  go_wp2_with fail
  refine HW.out.mono ?_
  rintro e w' ⟨rfl, rfl⟩
  clear HW
  go_wp2_with fail
  go_loopw [4, 14] (fun v i wr => ∃ (k : Nat) (ls : List Nat), k ≤ n ∧ i = .int .i64 k ∧ Hid (ls = cL k) ∧ wr.ownsRow w.heap.size 25 1 v ls.length (ls.map (Value.float .f32)) ∧ Below w.heap.size w wr) (fun _ i _ => n - (intOf i).toNat)
  case atStart => exact ⟨0, [0], by omega, rfl, Lib.hid rfl, HN.out, below_new _ _⟩
  case round =>
    obtain ⟨k, ls, hk, rfl, HL, hv, hb⟩ := hrel
    have HV := Lib.hid hv
    have HB := Lib.hid hb
    have hwz := hb.size
    have hls := cL_len k
    clear hv hb
    obtain ⟨Av, cv, rfl, hrv⟩ := shapeOf HV.out
    have HRV := Lib.hid hrv
    clear hrv
    by_cases hlt : k < n
    · obtain ⟨W0, hW0⟩ : ∃ W0, W0 = wr := ⟨_, rfl⟩
      rw [← hW0] at HV HB hwz HRV ⊢
      clear hW0
      have hln : ls.length ≤ 64 := by
        rw [HL.out, hls]
        have := Nat.pow_le_pow_right (show 0 < 2 by decide) (show k ≤ 6 by omega)
        omega
      have hl0 : 0 < ls.length := by rw [HL.out, hls]; exact Nat.two_pow_pos k
      have HOK : Hid (∀ x ∈ ls, floatBits .quo .f32 x 1077936128 = some (lfF x) ∧ floatBits .add .f32 (lfF x) 1059760811 = some (rtF x)) := Lib.hid (by rw [HL.out]; exact fun x hx => cL_ok (by omega) hx)
      have HNX : Hid (cL (k + 1) = ls.map lfF ++ ls.map rtF) := Lib.hid (by rw [HL.out]; rfl)
      have HLf : Hid ((W0.alloc (.cells #[] 25)).ownsRow W0.heap.size 25 1 (.slice (some ⟨W0.heap.size, 0, none⟩) 0 0) 0 []) := Lib.hid (own_nilF W0 25 W0.heap.size (Nat.le_refl _))
      have HL2 : Hid (((W0.alloc (.cells #[] 25)).alloc (.cells #[] 25)).ownsRow W0.heap.size 25 1 (.slice (some ⟨W0.heap.size, 0, none⟩) 0 0) 0 []) := Lib.hid (HLf.out.alloc _)
      have HR2 : Hid (((W0.alloc (.cells #[] 25)).alloc (.cells #[] 25)).ownsRow W0.heap.size 25 1 (.slice (some ⟨W0.heap.size + 1, 0, none⟩) 0 0) 0 []) := Lib.hid (by
        have h := own_nilF (W0.alloc (.cells #[] 25)) 25 W0.heap.size (by simp)
        simpa using h)
      have HT0 : Hid (Two (.slice (some ⟨W0.heap.size, 0, none⟩) 0 0) (.slice (some ⟨W0.heap.size + 1, 0, none⟩) 0 0)) := Lib.hid ⟨_, _, rfl, rfl, by simp⟩
      clear HLf
      go_wp2_with fail
      go_loopw [5, 6, 20] (fun vl vr i wr => ∃ (j : Nat) (l1 l2 : List Nat), j ≤ ls.length ∧ i = .int .i64 j ∧ Hid (l1.length = j) ∧ Hid (l2.length = j) ∧ Hid (l1 = (ls.take j).map lfF) ∧ Hid (l2 = (ls.take j).map rtF) ∧ wr.ownsRow W0.heap.size 25 1 vl l1.length (l1.map (Value.float .f32)) ∧ wr.ownsRow W0.heap.size 25 1 vr l2.length (l2.map (Value.float .f32)) ∧ Two vl vr ∧ Below W0.heap.size W0 wr) (fun _ _ i _ => ls.length - (intOf i).toNat)
      case atStart => exact ⟨0, [], [], by omega, rfl, Lib.hid rfl, Lib.hid rfl, Lib.hid rfl, Lib.hid rfl, HL2.out, HR2.out, HT0.out, (below_new W0 _).trans ((below_new _ _).mono (by simp))⟩
      case round =>
        obtain ⟨j, l1, l2, hj, rfl, HJ1, HJ2, HE1, HE2, hv1, hv2, ht, hbj⟩ := hrel
        have H1 := Lib.hid hv1
        have H2 := Lib.hid hv2
        have HT := Lib.hid ht
        have HBJ := Lib.hid hbj
        have hwj := hbj.size
        clear hv1 hv2 ht hbj
        obtain ⟨Al, cl, rfl, hrl⟩ := shapeOf H1.out
        obtain ⟨Ar, cr, rfl, hrr⟩ := shapeOf H2.out
        clear hrl hrr
        have hj1 : l1.length ≤ 64 := by rw [HJ1.out]; omega
        have hj2 : l2.length ≤ 64 := by rw [HJ2.out]; omega
        by_cases hjl : j < ls.length
        · obtain ⟨ad, rfl, _, hc⟩ := ((HRV.out.below HBJ.out).more hwj).at_ (k := j) (by rw [List.length_map]; exact hjl)
          rw [List.getElem_map] at hc
          obtain ⟨e1, e2⟩ := HOK.out _ (List.getElem_mem hjl)
          have HS1 := Lib.hid (take_mapF (f := lfF) hjl)
          have HS2 := Lib.hid (take_mapF (f := rtF) hjl)
          obtain ⟨x, hx⟩ : ∃ x, x = ls[j] := ⟨_, rfl⟩
          rw [← hx] at hc e1 e2 HS1 HS2
          have g1 := run_num (P := Try.prog) e1
          have g2 := run_num (P := Try.prog) e2
          clear hx e1 e2
          go_wp2_with (at_builtin; go_must (refine wpList_append_own_at _ rfl (.tmp 24) (.tmp 27) 26 rfl W0.heap.size 25 i0 (.float .f32 0) 1 4 Try.underlying26 hi hz0 hz1 hz2 rfl (by decide) _ _ _ rfl (H1.out.alloc _) ⟨wr.heap.size, 0, none⟩ 1 1 [.float .f32 (lfF x)] rfl rfl (newOne wr _ 25) (oneF _ _) ?_ ?_ ?_ ?_))
          · unfold maxLen; omega
          · omega
          · simp; omega
          intro v5 w5 hown5 hgrow5 _ hat5
          have HV5 := Lib.hid (own_appF hown5)
          have HB5 := Lib.hid ((HBJ.out.alloc hwj (.cells #[.float .f32 (lfF x)] 25)).grown hgrow5 (by simp; omega) (fun q hq => (H1.out.lt q hq).1))
          have HR5 := Lib.hid ((H2.out.alloc (.cells #[.float .f32 (lfF x)] 25)).kept hgrow5 HT.out.kept)
          have HT5 := Lib.hid (HT.out.grow hat5 (fun q hq => by have := (H2.out.lt q hq).2; simp; omega))
          have hw5 := HB5.out.size
          clear hown5 hgrow5 hat5
          go_wp2_with (at_builtin; go_must (refine wpList_append_own_at _ rfl (.tmp 29) (.tmp 33) 26 rfl W0.heap.size 25 i0 (.float .f32 0) 1 4 Try.underlying26 hi hz0 hz1 hz2 rfl (by decide) _ _ _ rfl (HR5.out.alloc _) ⟨w5.heap.size, 0, none⟩ 1 1 [.float .f32 (rtF x)] rfl rfl (newOne w5 _ 25) (oneF _ _) ?_ ?_ ?_ ?_))
          · unfold maxLen; omega
          · omega
          · simp; omega
          intro v6 w6 hown6 hgrow6 _ hat6
          have HV6 := Lib.hid (own_appF hown6)
          have HB6 := Lib.hid ((HB5.out.alloc hw5 (.cells #[.float .f32 (rtF x)] 25)).grown hgrow6 (by simp; omega) (fun q hq => (HR5.out.lt q hq).1))
          have HL6 := Lib.hid ((HV5.out.alloc (.cells #[.float .f32 (rtF x)] 25)).kept hgrow6 HT5.out.symm.kept)
          have HT6 := Lib.hid ((HT5.out.symm.grow hat6 (fun q hq => by have := (HV5.out.lt q hq).2; simp; omega)).symm)
          have K1 : Hid ((l1 ++ [lfF x]).length = j + 1) := Lib.hid (by rw [List.length_append, HJ1.out]; rfl)
          have K2 : Hid ((l2 ++ [rtF x]).length = j + 1) := Lib.hid (by rw [List.length_append, HJ2.out]; rfl)
          clear hown6 hgrow6 hat6 HV5 HB5 HR5 HT5
          go_wp2_with fail
          go_roundw
          case rel => exact ⟨j + 1, l1 ++ [lfF x], l2 ++ [rtF x], by omega, by go_num, K1, K2, Lib.hid (by rw [HS1.out, HE1.out]), Lib.hid (by rw [HS2.out, HE2.out]), HL6.out, HV6.out, HT6.out, HB6.out⟩
          case measure => simp [intOf]; omega
        · obtain rfl : j = ls.length := by omega
          have E1 : Hid (l1 = ls.map lfF) := Lib.hid (by rw [HE1.out, List.take_of_length_le (Nat.le_refl _)])
          have E2 : Hid (l2 = ls.map rtF) := Lib.hid (by rw [HE2.out, List.take_of_length_le (Nat.le_refl _)])
          obtain ⟨ad2, rfl, hc2⟩ := fls_cells H2.out (by rw [HJ2.out]; exact hl0)
          have HC2 := Lib.hid hc2
          have hl2l : (l2.map (Value.float .f32)).length = l2.length * 1 := by simp
          have HF1 := Lib.hid (floats_one l2)
          clear hc2
          have hbase : w.heap.size ≤ wr.heap.size := Nat.le_trans hwz hwj
          go_wp2_with (at_builtin; go_must (refine wpList_append_own_at _ rfl (.tmp 36) (.tmp 37) 26 rfl W0.heap.size 25 i0 (.float .f32 0) 1 4 Try.underlying26 hi hz0 hz1 hz2 rfl (by decide) _ _ _ rfl H1.out ad2 l2.length cr (l2.map (Value.float .f32)) rfl hl2l HC2.out HF1.out ?_ ?_ ?_ ?_))
          · unfold maxLen; omega
          · omega
          · exact hwj
          intro v8 w8 hown8 hgrow8 _ hat8
          have HV8 : Hid (w8.ownsRow w.heap.size 25 1 v8 (l1 ++ l2).length ((l1 ++ l2).map (Value.float .f32))) := Lib.hid (own_base (by simpa using hown8) hwz)
          have HB8 := Lib.hid (bthen HB.out (HBJ.out.grown hgrow8 hwj (fun q hq => (H1.out.lt q hq).1)))
          clear hown8 hgrow8 hat8
          go_wp2_with fail
          go_roundw
          case rel => exact ⟨k + 1, l1 ++ l2, by omega, by go_num, Lib.hid (by rw [HNX.out, E1.out, E2.out]), HV8.out, HB8.out⟩
          case measure => simp [intOf]; omega
    · obtain rfl : n = k := by omega
      have els := HL.out
      have HF := Lib.hid HV.out
      rw [els, hls] at HF ⊢
      go_wp2
      go_ret2
      exact ⟨⟨Av, cv, rfl, HF.out⟩, HB.out⟩
end Go.Proofs.Ytbojlgbkkdnegaa
