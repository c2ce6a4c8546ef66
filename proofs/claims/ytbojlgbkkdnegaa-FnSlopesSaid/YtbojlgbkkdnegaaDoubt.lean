/- How far points are from the line that is nearest to them. -/
import Derived.Test.YtbojlgbkkdnegaaSlopeI
import Derived.Test.YtbojlgbkkdnegaaGap
namespace Go.Proofs.Ytbojlgbkkdnegaa
open Ieee Go.RowKit
/-- the squares of how far points lie from a line -/
def residL (s b : Nat) (xs ys : List Nat) : List Nat := List.zipWith (fun x y => fop .mul .f32 (fop .sub .f32 y (fop .add .f32 (fop .mul .f32 s x) b)) (fop .sub .f32 y (fop .add .f32 (fop .mul .f32 s x) b))) xs ys
theorem residL_take (s b : Nat) {xs ys : List Nat} {k : Nat} (h : k < xs.length) (h' : k < ys.length) : sumF (residL s b (xs.take (k + 1)) (ys.take (k + 1))) = fop .add .f32 (sumF (residL s b (xs.take k) (ys.take k))) (fop .mul .f32 (fop .sub .f32 ys[k] (fop .add .f32 (fop .mul .f32 s xs[k]) b)) (fop .sub .f32 ys[k] (fop .add .f32 (fop .mul .f32 s xs[k]) b))) := by
  rw [List.take_succ_eq_append_getElem h, List.take_succ_eq_append_getElem h']
  unfold residL
  rw [List.zipWith_append (by rw [List.length_take, List.length_take]; omega)]
  exact sumF_snoc _ _
def doubtC (xs ys : List Nat) : Nat := rootC (fop .quo .f32 (sumF (residL (slopeS xs ys) (slopeB xs ys) xs ys)) (nOf xs))
def doubtR (xs ys : List Nat) : Nat := if slopeOk xs ys = true then numV (doubtC xs ys) else 0
def doubtB (xs ys : List Nat) : Bool := if slopeOk xs ys = true then finB (doubtC xs ys) else false
theorem doubtR_num (xs ys : List Nat) : nanF .f32 (doubtR xs ys) = false := by
  unfold doubtR
  split
  · exact numV_num _
  · exact num_zero
theorem slopeOk_parts {xs ys : List Nat} (h : slopeOk xs ys = true) : xs.length = ys.length ∧ finL xs = true ∧ finL ys = true ∧ finB (slopeS xs ys) = true ∧ finB (slopeB xs ys) = true := by
  unfold slopeOk slopeIn at h
  simp only [Bool.and_eq_true, decide_eq_true_eq] at h
  obtain ⟨⟨⟨h1, h2⟩, h3, _⟩, _, h5, h6⟩ := h
  exact ⟨h3, (listB_len h1).2, (listB_len h2).2, h5, h6⟩
set_option maxHeartbeats 8000000 in
set_option maxRecDepth 100000 in
theorem slopeDoubt_any (A : Option Addr) (n c : Nat) (xs : List Nat) (A' : Option Addr) (n' c' : Nat) (ys : List Nat) (w : World) (hn : xs.length = n) (hm : n ≤ 1048576) (hr : Rd w w.heap.size A (xs.map (Value.float .f32))) (hn' : ys.length = n') (hm' : n' ≤ 1048576) (hr' : Rd w w.heap.size A' (ys.map (Value.float .f32))) :
    Calls Try.prog 16 #[.slice A n c, .slice A' n' c'] w fun e w' => e = .returned (.tuple #[.float .f32 (doubtR xs ys), .bool (doubtB xs ys)]) ∧ Below w.heap.size w w' := by
  have cs := slopeOf_any A A' n n' c c' xs ys w hn hn' hm hm' hr hr'
  have hcv := fun (n : Int) (w : World) => run_convert_int_float (P := Try.prog) w 3 25 .i64 .f32 n (by rw [Try.underlying3]; rfl) Try.und25
  cases hk : slopeOk xs ys
  · have HO : Hid (doubtR xs ys = 0 ∧ doubtB xs ys = false) := Lib.hid (by unfold doubtR doubtB; rw [hk]; exact ⟨rfl, rfl⟩)
    unfold GivesS at cs
    rw [hk] at cs
    have HC := Lib.hid cs
    clear cs hk hr hr' hn hn'
    go_enter Try.func16, Try.ntmps16
    go_wp2_with fail
    refine HC.out.mono ?_
    rintro e w1 ⟨⟨s, b, rfl, hv⟩, hb⟩
    have HB := Lib.hid hb; clear hb hv
    go_wp2
    go_ret2
    rw [HO.out.1, HO.out.2]
    exact ⟨rfl, HB.out⟩
  · obtain ⟨hxy, hfx, hfy, hs, hb⟩ := slopeOk_parts hk
    have HO : Hid (doubtR xs ys = numV (doubtC xs ys) ∧ doubtB xs ys = finB (doubtC xs ys)) := Lib.hid (by unfold doubtR doubtB; rw [hk]; exact ⟨rfl, rfl⟩)
    obtain rfl : n = n' := by omega
    have HN : Hid (nOf xs = floatOfInt .f32 (n : Int)) := Lib.hid (by unfold nOf; rw [hn])
    unfold GivesS at cs
    rw [hk] at cs
    have HC := Lib.hid cs
    have HF := Lib.hid (finL_mem hfx); clear hfx
    have HF' := Lib.hid (finL_mem hfy); clear hfy
    have Hn := Lib.hid hn; clear hn
    have Hn' := Lib.hid hn'; clear hn'
    have Hr := Lib.hid hr; clear hr
    have Hr' := Lib.hid hr'; clear hr'
    have HS := Lib.hid (And.intro hs hb)
    clear cs hk hs hb hxy
    go_enter Try.func16, Try.ntmps16
    go_wp2_with fail
    refine HC.out.mono ?_
    rintro e w1 ⟨⟨s, b, rfl, hv⟩, hb⟩
    obtain ⟨rfl, rfl⟩ := hv (by first | rfl | trivial)
    have HB1 := Lib.hid hb
    have R1 := Lib.hid (Hr.out.next hb)
    have R1' := Lib.hid (Hr'.out.next hb)
    clear hb hv
    have hs := HS.out.1
    have hb := HS.out.2
    have HD : Hid (doubtC xs ys = rootC (fop .quo .f32 (sumF (residL (slopeS xs ys) (slopeB xs ys) xs ys)) (nOf xs))) := Lib.hid rfl
    obtain ⟨s, hse⟩ : ∃ s, s = slopeS xs ys := ⟨_, rfl⟩
    obtain ⟨b, hbe⟩ : ∃ b, b = slopeB xs ys := ⟨_, rfl⟩
    rw [← hse] at hs HD ⊢
    rw [← hbe] at hb HD ⊢
    clear hse hbe HS
    have HS := Lib.hid (And.intro hs hb)
    clear hs hb
    go_wp2_with fail
    go_loopw [9, 23] (fun t i wr => ∃ (k z : Nat), k ≤ n ∧ i = .int .i64 k ∧ t = .float .f32 z ∧ Hid (Sim .f32 z (sumF (residL s b (xs.take k) (ys.take k)))) ∧ ∃ m, wr = w1.drewN m) (fun _ i _ => n - (intOf i).toNat)
    case atStart => exact ⟨0, 0, Nat.zero_le _, rfl, rfl, Lib.hid (.refl _ _), 0, rfl⟩
    case round =>
      obtain ⟨k, z, hk, rfl, rfl, HZ, hq⟩ := hrel
      by_cases hlt : k < n
      · have hka : k < xs.length := by rw [Hn.out]; exact hlt
        have hkb : k < ys.length := by rw [Hn'.out]; exact hlt
        obtain ⟨ad, rfl, hab, hcell⟩ := R1.out.at_ (k := k) (by rw [List.length_map]; exact hka)
        obtain ⟨ad', rfl, hab', hcell'⟩ := R1'.out.at_ (k := k) (by rw [List.length_map]; exact hkb)
        rw [List.getElem_map] at hcell hcell'
        have HQ := Lib.hid hq
        have hfx := HF.out _ (List.getElem_mem hka)
        have hfy := HF'.out _ (List.getElem_mem hkb)
        have HT := Lib.hid (residL_take s b hka hkb)
        obtain ⟨x, hx⟩ : ∃ x, x = xs[k] := ⟨_, rfl⟩
        rw [← hx] at hcell hfx HT
        obtain ⟨y, hy⟩ : ∃ y, y = ys[k] := ⟨_, rfl⟩
        rw [← hy] at hcell' hfy HT
        have o1 := mul_num HS.out.1 hfx
        have o2 := add_num o1.2 HS.out.2
        have o3 := sub_num hfy o2.2
        have p1 := run_num (P := Try.prog) o1.1
        have p2 := run_num (P := Try.prog) o2.1
        have p3 := run_num (P := Try.prog) o3.1
        have e1 := cell_drw hq hcell
        have e1' := cell_drw hq hcell'
        clear hx hy hcell hcell' hq hfx hfy o1 o2 o3
        go_wp2_with fail
        go_still_tail 13, (by kernel_rfl)
        change wpList _ _ _ _ _ (World.drew _)
        have hq2 := drw_drew HQ.out
        generalize World.drew wr = w2 at hq2 ⊢
        have HQ2 := Lib.hid hq2
        clear hq2 e1 e1' p1 p2 p3
        go_wp2_with (first | (refine wpList_fop rfl .mul 25 (.tmp 40) (.tmp 41) 25 rfl arith_mul .f32 _ _ rfl rfl ?_; intro r1 m1 h1) | (refine wpList_fop rfl .add 25 (.tmp 39) (.tmp 42) 25 rfl arith_add .f32 _ _ rfl rfl ?_; intro r2 m2 h2))
        have H2 := Lib.hid (h2.trans (fop_sim arith_add HZ.out h1))
        clear h1 h2
        go_wp2
        go_roundw
        case rel => exact ⟨k + 1, r2, by omega, by go_num, rfl, Lib.hid (by rw [HT.out]; exact H2.out), drw_trans HQ2.out ⟨_, rfl⟩⟩
        case measure => simp [intOf]; omega
      · obtain rfl : n = k := by omega
        have HT : Hid (Sim .f32 z (sumF (residL s b xs ys))) := Lib.hid (by have h := HZ.out; rwa [List.take_of_length_le (by rw [Hn.out]; omega), List.take_of_length_le (by rw [Hn'.out]; omega)] at h)
        have HQ := Lib.hid hq
        clear hq
        go_wp2_with (first | (refine wpList_fop rfl .quo 25 (.tmp 45) (.tmp 48) 25 rfl arith_quo .f32 _ _ rfl rfl ?_; intro r1 m1 h1))
        have K1 : Sim .f32 r1 (fop .quo .f32 (sumF (residL s b xs ys)) (nOf xs)) := by
          rw [HN.out]
          exact h1.trans (fop_sim arith_quo HT.out (.refl _ _))
        have HC2 := Lib.hid (fun W => rootNumber_any r1 _ W K1)
        clear K1 h1
        refine (HC2.out _).mono ?_
        rintro e w' ⟨⟨r2, rfl, h2⟩, m2, rfl⟩
        rw [← HD.out] at h2
        have HC3 := Lib.hid (fun W => ifNumber_any r2 _ W h2)
        clear h2
        go_wp2_with fail
        refine (HC3.out _).mono ?_
        rintro e w' ⟨rfl, m3, rfl⟩
        have HQ3 := Lib.hid (drw_trans HQ.out (show ∃ k, World.drewN wr (m1 + m2 + m3) = wr.drewN k from ⟨_, rfl⟩))
        rw [← HO.out.1, ← HO.out.2]
        go_wp2
        go_ret2
        exact ⟨rfl, below_drw HB1.out (drw_trans HQ.out ⟨_, by first | rfl | (simp only [World.drew_is_drewN, World.drewN_drewN]; rfl)⟩)⟩
end Go.Proofs.Ytbojlgbkkdnegaa
