/- Slopes of lines through points, both ways. -/
import Derived.Test.YtcpimcjmckljfaaLogs
import Derived.Test.YtcpimcjmckljfaaStill
import Derived.StillTailTactics
namespace Go.Proofs.Ytcpimcjmckljfaa
open Ieee Go.RowKit
def sqN (xs : List Nat) : List Nat := xs.map fun x => fop .mul .f32 x x
def mulN (xs ys : List Nat) : List Nat := List.zipWith (fop .mul .f32) xs ys
def nOf (xs : List Nat) : Nat := floatOfInt .f32 (xs.length : Int)
def slopeE (xs : List Nat) : Nat := fop .sub .f32 (fop .mul .f32 (nOf xs) (sumF (sqN xs))) (fop .mul .f32 (sumF xs) (sumF xs))
def slopeS (xs ys : List Nat) : Nat := fop .quo .f32 (fop .sub .f32 (fop .mul .f32 (nOf xs) (sumF (mulN xs ys))) (fop .mul .f32 (sumF xs) (sumF ys))) (slopeE xs)
def slopeB (xs ys : List Nat) : Nat := fop .quo .f32 (fop .sub .f32 (sumF ys) (fop .mul .f32 (slopeS xs ys) (sumF xs))) (nOf xs)
/-- no nought -/
def neB (x : Nat) : Bool := !(FloatKind.f32.format.order x 0 == some .eq)
theorem order_sim {k : FloatKind} {x y : Nat} (h : Sim k x y) (z : Nat) : k.format.order x z = k.format.order y z := by
  rcases h with rfl | ⟨h1, h2⟩
  · rfl
  · rw [(order_nan h1 z).1, (order_nan h2 z).1]
theorem he_of {x y : Nat} {b : Bool} (h : Sim .f32 x y) (hb : neB y = b) : (FloatKind.f32.format.order x 0 == some .eq) = !b := by
  unfold neB at hb
  rw [order_sim h, ← hb, Bool.not_not]
theorem neB_sim {x y : Nat} (h : Sim .f32 x y) : neB x = neB y := by unfold neB; rw [order_sim h]
def slopeIn (xs ys : List Nat) : Bool := listB xs && listB ys && (decide (xs.length = ys.length) && decide (2 ≤ xs.length))
def slopeOk (xs ys : List Nat) : Bool := slopeIn xs ys && (neB (slopeE xs) && (finB (slopeS xs ys) && finB (slopeB xs ys)))
/-- a slope and a base, if they are told -/
def GivesS (xs ys : List Nat) (e : Ending) : Prop := ∃ s b, e = .returned (.tuple #[.float .f32 s, .float .f32 b, .bool (slopeOk xs ys)]) ∧ (slopeOk xs ys = true → s = slopeS xs ys ∧ b = slopeB xs ys)
theorem sqN_take {xs : List Nat} {k : Nat} (h : k < xs.length) : sumF (sqN (xs.take (k + 1))) = fop .add .f32 (sumF (sqN (xs.take k))) (fop .mul .f32 xs[k] xs[k]) := by
  rw [List.take_succ_eq_append_getElem h]
  unfold sqN
  rw [List.map_append]
  exact sumF_snoc _ _
theorem mulN_take {xs ys : List Nat} {k : Nat} (h : k < xs.length) (h' : k < ys.length) : sumF (mulN (xs.take (k + 1)) (ys.take (k + 1))) = fop .add .f32 (sumF (mulN (xs.take k) (ys.take k))) (fop .mul .f32 xs[k] ys[k]) := by
  rw [List.take_succ_eq_append_getElem h, List.take_succ_eq_append_getElem h']
  unfold mulN
  rw [List.zipWith_append (by rw [List.length_take, List.length_take]; omega)]
  exact sumF_snoc _ _
theorem drw_refl (w : World) : ∃ m, w = w.drewN m := ⟨0, rfl⟩
theorem drw_mk (w : World) (m : Nat) : ∃ k, w.drewN m = w.drewN k := ⟨m, rfl⟩
theorem drw_trans {a b c : World} (h : ∃ m, b = a.drewN m) (h' : ∃ m, c = b.drewN m) : ∃ m, c = a.drewN m := by
  obtain ⟨m, rfl⟩ := h
  obtain ⟨k, rfl⟩ := h'
  exact ⟨_, World.drewN_drewN ..⟩
theorem drw_drew {a b : World} (h : ∃ m, b = a.drewN m) : ∃ m, b.drew = a.drewN m := drw_trans h ⟨1, rfl⟩
theorem cell_drw {a b : World} {p : Addr} {v : Value} (h : ∃ m, b = a.drewN m) (hc : a.cell? p = some v) : b.cell? p = some v := by
  obtain ⟨m, rfl⟩ := h
  exact hc
set_option maxHeartbeats 1000000 in
theorem sumOf_any (A : Option Addr) (n c : Nat) (xs : List Nat) (w : World) (hn : xs.length = n) (hm : n ≤ 140737488351232) (hr : Rd w w.heap.size A (xs.map (Value.float .f32))) :
    Calls Try.prog 71 #[.slice A n c] w fun e w' => (∃ r, e = .returned (.float .f32 r) ∧ Sim .f32 r (sumF xs)) ∧ ∃ m, w' = w.drewN m := by
  have Hn := Lib.hid hn; clear hn
  have Hr := Lib.hid hr; clear hr
  go_enter Try.func71, Try.ntmps71
  go_wp2
  go_loopw [3, 8] (fun s i wr => ∃ (k z : Nat), k ≤ n ∧ i = .int .i64 k ∧ s = .float .f32 z ∧ Sim .f32 z (sumF (xs.take k)) ∧ ∃ m, wr = w.drewN m) (fun _ i _ => n - (intOf i).toNat)
  case atStart => exact ⟨0, 0, Nat.zero_le _, rfl, rfl, .refl _ _, 0, rfl⟩
  case round =>
    obtain ⟨k, z, hk, rfl, rfl, hz, m, rfl⟩ := hrel
    have HZ := Lib.hid hz; clear hz
    by_cases hlt : k < n
    · have hka : k < xs.length := by rw [Hn.out]; exact hlt
      obtain ⟨ad, rfl, hab, hcell⟩ := Hr.out.at_ (k := k) (by rw [List.length_map]; exact hka)
      rw [List.getElem_map] at hcell
      have HS := Lib.hid (sumF_take hka)
      obtain ⟨x, hx⟩ : ∃ x, x = xs[k] := ⟨_, rfl⟩
      rw [← hx] at hcell HS
      clear hx
      go_wp2_with (refine wpList_fop rfl .add 23 _ _ 23 rfl arith_add .f32 _ _ rfl rfl ?_; intro r1 m1 h1)
      have H1 := Lib.hid (h1.trans (fop_sim arith_add HZ.out (.refl _ x)))
      clear h1
      go_wp2
      go_roundw
      case rel => exact ⟨k + 1, r1, by omega, by go_num, rfl, by rw [HS.out]; exact H1.out, _, by first | rfl | (simp only [World.drew_is_drewN, World.drewN_drewN]; rfl)⟩
      case measure => simp [intOf]; omega
    · obtain rfl : n = k := by omega
      have HT : Hid (Sim .f32 z (sumF xs)) := Lib.hid (by have h := HZ.out; rwa [List.take_of_length_le (by rw [Hn.out]; omega)] at h)
      go_wp2
      go_ret
      exact ⟨⟨z, rfl, HT.out⟩, _, by first | rfl | (simp only [World.drew_is_drewN, World.drewN_drewN]; rfl)⟩
set_option maxHeartbeats 4000000 in
set_option maxRecDepth 100000 in
theorem slope_any (A A' : Option Addr) (n c c' : Nat) (xs ys : List Nat) (w : World) (hf : finL xs = true) (hf' : finL ys = true) (hn : xs.length = n) (hn' : ys.length = n) (hm : n ≤ 1048576) (hr : Rd w w.heap.size A (xs.map (Value.float .f32))) (hr' : Rd w w.heap.size A' (ys.map (Value.float .f32))) :
    Calls Try.prog 100 #[.slice A n c, .slice A' n c'] w fun e w' => (∃ s b d, e = .returned (.tuple #[.float .f32 s, .float .f32 b, .float .f32 d]) ∧ Sim .f32 s (slopeS xs ys) ∧ Sim .f32 b (slopeB xs ys) ∧ Sim .f32 d (slopeE xs)) ∧ ∃ m, w' = w.drewN m := by
  have hcv := fun (n : Int) (w : World) => run_convert_int_float (P := Try.prog) w 3 23 .i64 .f32 n (by rw [Try.underlying3]; rfl) Try.underlying23
  have HN : Hid (nOf xs = floatOfInt .f32 (n : Int)) := Lib.hid (by unfold nOf; rw [hn])
  have HC1 := Lib.hid (fun m => sumOf_any A n c xs (w.drewN m) hn (by omega) hr)
  have HC2 := Lib.hid (fun m => sumOf_any A' n c' ys (w.drewN m) hn' (by omega) hr')
  have HC0 := Lib.hid (sumOf_any A n c xs w hn (by omega) hr)
  have HF := Lib.hid (finL_mem hf); clear hf
  have HF' := Lib.hid (finL_mem hf'); clear hf'
  have Hn := Lib.hid hn; clear hn
  have Hn' := Lib.hid hn'; clear hn'
  have Hr := Lib.hid hr; clear hr
  have Hr' := Lib.hid hr'; clear hr'
  go_enter Try.func100, Try.ntmps100
  go_wp2_with fail
  refine HC0.out.mono ?_
  rintro e w1 ⟨⟨a, rfl, ha⟩, m1, rfl⟩
  have HA := Lib.hid ha; clear ha
  go_wp2_with fail
  refine (HC2.out m1).mono ?_
  rintro e w2 ⟨⟨b, rfl, hb⟩, m2, rfl⟩
  have HB := Lib.hid hb; clear hb
  go_wp2_with fail
  go_loopw [10, 11, 24] (fun s t i wr => ∃ (k z u : Nat), k ≤ n ∧ i = .int .i64 k ∧ s = .float .f32 z ∧ t = .float .f32 u ∧ Hid (Sim .f32 z (sumF (sqN (xs.take k)))) ∧ Hid (Sim .f32 u (sumF (mulN (xs.take k) (ys.take k)))) ∧ ∃ m, wr = w.drewN m) (fun _ _ i _ => n - (intOf i).toNat)
  case atStart => exact ⟨0, 0, 0, Nat.zero_le _, rfl, rfl, rfl, Lib.hid (.refl _ _), Lib.hid (.refl _ _), drw_mk _ _⟩
  case round =>
    obtain ⟨k, z, u, hk, rfl, rfl, rfl, HZ, HU, hq⟩ := hrel
    by_cases hlt : k < n
    · have hka : k < xs.length := by rw [Hn.out]; exact hlt
      have hkb : k < ys.length := by rw [Hn'.out]; exact hlt
      obtain ⟨ad, rfl, hab, hcell⟩ := Hr.out.at_ (k := k) (by rw [List.length_map]; exact hka)
      obtain ⟨ad', rfl, hab', hcell'⟩ := Hr'.out.at_ (k := k) (by rw [List.length_map]; exact hkb)
      rw [List.getElem_map] at hcell hcell'
      have HQ := Lib.hid hq
      have hfx := HF.out _ (List.getElem_mem hka)
      have hfy := HF'.out _ (List.getElem_mem hkb)
      have HS := Lib.hid (sqN_take hka)
      have HS' := Lib.hid (mulN_take hka hkb)
      obtain ⟨x, hx⟩ : ∃ x, x = xs[k] := ⟨_, rfl⟩
      rw [← hx] at hcell HS HS' hfx
      obtain ⟨y, hy⟩ : ∃ y, y = ys[k] := ⟨_, rfl⟩
      rw [← hy] at hcell' HS' hfy
      have hx2 := run_num (P := Try.prog) (mul_num hfx hfx).1
      have hxy := run_num (P := Try.prog) (mul_num hfx hfy).1
      have HE := Lib.hid hcell
      have HE' := Lib.hid hcell'
      have e1 := cell_drw hq hcell
      clear hx hy hcell hcell' hq hfx hfy
      go_wp2_with fail
      go_still_tail 10, (by kernel_rfl)
      change wpList _ _ _ _ _ (World.drew _)
      go_wp2_with (first | (refine wpList_fopW rfl .add 23 (.tmp 27) (.tmp 36) 23 rfl arith_add .f32 _ _ rfl rfl ?_; intro r2 w2 h2 q2))
      have hq2 := drw_trans (drw_drew HQ.out) q2
      have HQ2 := Lib.hid hq2
      have H2 := Lib.hid (h2.trans (fop_sim arith_add HZ.out (.refl _ _)))
      have e2 := cell_drw hq2 HE.out
      have e2' := cell_drw hq2 HE'.out
      clear h2 hq2 q2 e1
      go_wp2_with fail
      go_still_tail 10, (by kernel_rfl)
      change wpList _ _ _ _ _ (World.drew _)
      go_wp2_with (first | (refine wpList_fopW rfl .add 23 (.tmp 38) (.tmp 47) 23 rfl arith_add .f32 _ _ rfl rfl ?_; intro r4 w4 h4 q4))
      have HQ4 := Lib.hid (drw_trans (drw_drew HQ2.out) q4)
      have H4 := Lib.hid (h4.trans (fop_sim arith_add HU.out (.refl _ _)))
      clear h4 q4 e2 e2'
      go_wp2
      go_roundw
      case rel => exact ⟨k + 1, r2, r4, by omega, by go_num, rfl, rfl, Lib.hid (by rw [HS.out]; exact H2.out), Lib.hid (by rw [HS'.out]; exact H4.out), HQ4.out⟩
      case measure => simp [intOf]; omega
    · obtain rfl : n = k := by omega
      have HT : Hid (Sim .f32 z (sumF (sqN xs))) := Lib.hid (by have h := HZ.out; rwa [List.take_of_length_le (by rw [Hn.out]; omega)] at h)
      have HT' : Hid (Sim .f32 u (sumF (mulN xs ys))) := Lib.hid (by have h := HU.out; rwa [List.take_of_length_le (by rw [Hn.out]; omega), List.take_of_length_le (by rw [Hn'.out]; omega)] at h)
      go_wp2_with (first | (refine wpList_fop rfl .mul 23 (.tmp 50) (.tmp 51) 23 rfl arith_mul .f32 _ _ rfl rfl ?_; intro r1 m1 h1) | (refine wpList_fop rfl .mul 23 (.tmp 53) (.tmp 54) 23 rfl arith_mul .f32 _ _ rfl rfl ?_; intro r2 m2 h2) | (refine wpList_fop rfl .sub 23 (.tmp 52) (.tmp 55) 23 rfl arith_sub .f32 _ _ rfl rfl ?_; intro r3 m3 h3) | (refine wpList_fop rfl .mul 23 (.tmp 57) (.tmp 58) 23 rfl arith_mul .f32 _ _ rfl rfl ?_; intro r4 m4 h4) | (refine wpList_fop rfl .mul 23 (.tmp 60) (.tmp 61) 23 rfl arith_mul .f32 _ _ rfl rfl ?_; intro r5 m5 h5) | (refine wpList_fop rfl .sub 23 (.tmp 59) (.tmp 62) 23 rfl arith_sub .f32 _ _ rfl rfl ?_; intro r6 m6 h6) | (refine wpList_fop rfl .quo 23 (.tmp 63) (.tmp 64) 23 rfl arith_quo .f32 _ _ rfl rfl ?_; intro r7 m7 h7) | (refine wpList_fop rfl .mul 23 (.tmp 68) (.tmp 69) 23 rfl arith_mul .f32 _ _ rfl rfl ?_; intro r8 m8 h8) | (refine wpList_fop rfl .sub 23 (.tmp 67) (.tmp 70) 23 rfl arith_sub .f32 _ _ rfl rfl ?_; intro r9 m9 h9) | (refine wpList_fop rfl .quo 23 (.tmp 71) (.tmp 72) 23 rfl arith_quo .f32 _ _ rfl rfl ?_; intro r10 m10 h10))
      have K3 : Sim .f32 r3 (slopeE xs) := by
        unfold slopeE
        rw [HN.out]
        exact h3.trans (fop_sim arith_sub (h1.trans (fop_sim arith_mul (.refl _ _) HT.out)) (h2.trans (fop_sim arith_mul HA.out HA.out)))
      have K7 : Sim .f32 r7 (slopeS xs ys) := by
        unfold slopeS
        rw [HN.out]
        exact h7.trans (fop_sim arith_quo (h6.trans (fop_sim arith_sub (h4.trans (fop_sim arith_mul (.refl _ _) HT'.out)) (h5.trans (fop_sim arith_mul HA.out HB.out)))) K3)
      have K10 : Sim .f32 r10 (slopeB xs ys) := by
        unfold slopeB
        rw [HN.out]
        exact h10.trans (fop_sim arith_quo (h9.trans (fop_sim arith_sub HB.out (h8.trans (fop_sim arith_mul K7 HA.out)))) (.refl _ _))
      have HK := Lib.hid (And.intro K3 (And.intro K7 K10))
      clear K3 K7 K10 h1 h2 h3 h4 h5 h6 h7 h8 h9 h10
      go_wp2
      go_ret3
      exact ⟨⟨r7, r10, r3, rfl, HK.out.2.1, HK.out.2.2, HK.out.1⟩, by obtain ⟨m, rfl⟩ := hq; exact ⟨_, by simp only [World.drewN_drewN]; rfl⟩⟩
end Go.Proofs.Ytcpimcjmckljfaa
