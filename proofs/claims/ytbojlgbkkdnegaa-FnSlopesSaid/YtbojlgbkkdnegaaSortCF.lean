/- One put into a list in order. -/
import Derived.Test.YtbojlgbkkdnegaaSo
import Derived.Test.YtbojlgbkkdnegaaSortBF
namespace Go.Proofs.Ytbojlgbkkdnegaa
open Go.Shelf Go.RowKit Go.Lib Go.Sort
set_option maxHeartbeats 16000000 in
set_option maxRecDepth 1000000 in
/-- one put into a list -/
theorem symOneL_F {enc : Nat → Value} {cf : Nat → Nat → Int} {lt : Nat → Nat → Prop} {g : Nat} {cb : Array Value} {blk off n : Nat} {d0 : Array Nat} {w0 : World} (H : SortIn enc cf lt g cb blk off n d0 w0) (cap a m b : Nat) (w : World) (P : List Nat) (y : Nat) (R Q : List Nat) (hl : P.length + 1 + R.length + Q.length = n) (ha : a = P.length) (hm : m = a + 1) (hb : b = m + R.length) (hR : R.Pairwise lt) (hc : ∀ x ∈ R, OkC lt cf y x) (S : SL enc w0 blk off (P ++ (y :: (R ++ Q))) w) :
    Calls Try.prog 67 #[.slice (some ⟨blk, off, none⟩) n cap, .int .i64 a, .int .i64 m, .int .i64 b, .func (.func g) #[] cb] w fun e w' => e = .returned (.tuple #[]) ∧ ∃ M : List Nat, Merged lt [y] R M ∧ SL enc w0 blk off (P ++ (M ++ Q)) w' := by
  have mixed := mixedT
  have hcl0 := H.row.hO.cells
  simp only [Value.cells] at hcl0
  have hst := H.row.hO.store Try.prog
  have htop := H.top
  have eg := H.eg
  have HS0 := Lib.hid S
  have HA := Lib.hid (show P.length + 1 + R.length + Q.length = n ∧ a = P.length ∧ m = a + 1 ∧ b = m + R.length from ⟨hl, ha, hm, hb⟩)
  have ham : a < m := by omega
  have hmb : m ≤ b := by omega
  have hbn : b ≤ n := by omega
  have z1 : (m : Int) - (a : Int) = 1 := by omega
  have HR := Lib.hid (And.intro hR hc)
  clear S hl ha hm hb hR hc
  go_enter Try.func67, Try.ntmps67
  go_wp2
  go_loopw [10, 11] (fun vi vj wr => ∃ i j : Nat, vi = .int .i64 i ∧ vj = .int .i64 j ∧ m ≤ i ∧ i ≤ j ∧ j ≤ b ∧ Hid ((∀ (k : Nat) (h : k < R.length), m + k < i → lt R[k] y) ∧ (∀ (k : Nat) (h : k < R.length), j ≤ m + k → lt y R[k])) ∧ Hid (SL enc w0 blk off (P ++ (y :: (R ++ Q))) wr)) (fun vi vj _ => (intOf vj).toNat - (intOf vi).toNat)
  case atStart => exact ⟨m, b, rfl, rfl, Nat.le_refl _, hmb, Nat.le_refl _, Lib.hid ⟨fun k h hk => by omega, fun k h hk => by have := HA.out; omega⟩, HS0⟩
  case round =>
    clear HS0
    obtain ⟨i, j, rfl, rfl, hmi, hij, hjb, HI, HS⟩ := hrel
    have hlen := Lib.hid (show (P ++ (y :: (R ++ Q))).length = n by obtain ⟨x1, x2, x3, x4⟩ := HA.out; simp only [List.length_append, List.length_cons]; omega)
    by_cases hlt : i < j
    · have hltz : (i : Int) < (j : Int) := by omega
      obtain ⟨h, zh, hh1, hh2⟩ : ∃ h : Nat, ((i : Int) + (j : Int)) / 2 = (h : Int) ∧ i ≤ h ∧ h < j := ⟨(i + j) / 2, by omega, by omega, by omega⟩
      have hhn : h < n := by omega
      have han : a < n := by omega
      obtain ⟨k, hk⟩ : ∃ k, h = m + k := ⟨h - m, by omega⟩
      have hkl : k < R.length := by obtain ⟨x1, x2, x3, x4⟩ := HA.out; omega
      have HK := Lib.hid (And.intro hk hkl)
      clear hk
      obtain ⟨A, C, hAC, hAl⟩ := split_at hkl
      obtain ⟨x, hx⟩ : ∃ x, x = R[k] := ⟨_, rfl⟩
      have HX := Lib.hid hx
      rw [← hx] at hAC
      have EX := Lib.hid (show P ++ (y :: (R ++ Q)) = (P ++ y :: A) ++ x :: (C ++ Q) by rw [hAC]; simp)
      have EY := Lib.hid (show P ++ (y :: (R ++ Q)) = P ++ y :: (R ++ Q) from rfl)
      have QX : Hid (h = (P ++ y :: A).length) := Lib.hid (by obtain ⟨x1, x2, x3, x4⟩ := HA.out; have := HK.out.1; simp only [List.length_append, List.length_cons]; omega)
      have QY : Hid (a = P.length) := Lib.hid HA.out.2.1
      have HOK : Hid (OkC lt cf y x) := Lib.hid (HR.out.2 x (by rw [hx]; exact List.getElem_mem hkl))
      clear hAC hAl hx
      by_cases hv : cf x y < 0
      · have HLT := Lib.hid (HOK.out.1 hv)
        have l1 := HS.out.cl H hlen.out EX.out QX.out
        have l2 := HS.out.cl H hlen.out EY.out QY.out
        have hcc := HS.out.cmp H hlen.out x y
        have hd : decide (cf x y < 0) = true := decide_eq_true hv
        clear hlen EX EY QX QY
        go_wp2_with fail
        go_quiet_grown (first | (go_at_fn g; refine Calls.grown_of (hcc _ _)))
        have S2 := Lib.hid (HS.out.grown nq osq)
        clear l1 l2 hcc HS
        generalize grow (wr.drewN nq) osq = w2 at S2 ⊢
        clear nq osq
        go_wp2
        go_roundw
        case rel =>
          obtain ⟨e1, e2⟩ := HK.out
          have hl := HLT.out
          rw [HX.out] at hl
          exact ⟨h + 1, j, by first | rfl | go_num, rfl, by omega, by omega, hjb, Lib.hid ⟨fun k' h' hk' => lo_upto H.tr HR.out.1 e2 hl k' h' (by omega), HI.out.2⟩, S2⟩
        case measure => simp [intOf]; omega
      · have HLT := Lib.hid (HOK.out.2 hv)
        have l1 := HS.out.cl H hlen.out EX.out QX.out
        have l2 := HS.out.cl H hlen.out EY.out QY.out
        have hcc := HS.out.cmp H hlen.out x y
        have hd : decide (cf x y < 0) = false := decide_eq_false hv
        clear hlen EX EY QX QY
        go_wp2_with fail
        go_quiet_grown (first | (go_at_fn g; refine Calls.grown_of (hcc _ _)))
        have S2 := Lib.hid (HS.out.grown nq osq)
        clear l1 l2 hcc HS
        generalize grow (wr.drewN nq) osq = w2 at S2 ⊢
        clear nq osq
        go_wp2
        go_roundw
        case rel =>
          obtain ⟨e1, e2⟩ := HK.out
          have hl := HLT.out
          rw [HX.out] at hl
          exact ⟨i, h, rfl, rfl, hmi, hh1, by omega, Lib.hid ⟨HI.out.1, fun k' h' hk' => hi_from H.tr HR.out.1 e2 hl k' h' (by omega)⟩, S2⟩
        case measure => simp [intOf]; omega
    · have hltz : ¬ (i : Int) < (j : Int) := by omega
      obtain ⟨i1, zi, hi1⟩ : ∃ i1 : Nat, (i : Int) - 1 = (i1 : Int) ∧ i1 + 1 ≤ i ∧ i ≤ i1 + 1 := ⟨i - 1, by omega, by omega⟩
      have HM : Hid (Merged lt [y] R (R.take (i - m) ++ y :: R.drop (i - m))) := Lib.hid (merged_left HR.out.1 (take_all (fun k h hk => HI.out.1 k h (by omega))) (drop_all (fun k h hk => HI.out.2 k h (by omega))))
      obtain ⟨R1, hR1⟩ : ∃ R1, R1 = R.take (i - m) := ⟨_, rfl⟩
      obtain ⟨R2, hR2⟩ : ∃ R2, R2 = R.drop (i - m) := ⟨_, rfl⟩
      have HRR : Hid (R = R1 ++ R2 ∧ R1.length + m = i) := Lib.hid ⟨by rw [hR1, hR2, List.take_append_drop], by obtain ⟨x1, x2, x3, x4⟩ := HA.out; rw [hR1, List.length_take]; omega⟩
      rw [← hR1, ← hR2] at HM
      have HS1 : Hid (SL enc w0 blk off (P ++ (y :: (R1 ++ (R2 ++ Q)))) wr) := Lib.hid (by have h := HS.out; rw [HRR.out.1] at h; simpa using h)
      clear hR1 hR2 HS hlen
      go_wp2
      go_loopw [13] (fun vk wr => ∃ (k : Nat) (A1 A2 : List Nat), vk = .int .i64 k ∧ k ≤ i1 ∧ Hid (k = a + A1.length ∧ A1.length + A2.length + m = i) ∧ Hid (R1 = A1 ++ A2) ∧ Hid (SL enc w0 blk off (P ++ (A1 ++ (y :: (A2 ++ (R2 ++ Q))))) wr)) (fun vk _ => i1 - (intOf vk).toNat)
      case atStart => exact ⟨a, [], R1, rfl, by omega, Lib.hid ⟨rfl, by simpa using HRR.out.2⟩, Lib.hid rfl, HS1⟩
      case round =>
        clear HS1
        obtain ⟨k, A1, A2, rfl, hki, HK, HE, HS⟩ := hrel
        by_cases hlk : k < i1
        · have hlz : (k : Int) < (i1 : Int) := by omega
          cases A2 with
          | nil => exact absurd HK.out (by obtain ⟨x1, x2, x3, x4⟩ := HA.out; simp; omega)
          | cons z A2' =>
          have hlen := Lib.hid (show (P ++ (A1 ++ (y :: (z :: A2' ++ (R2 ++ Q))))).length = n by
            obtain ⟨x1, x2, x3, x4⟩ := HA.out
            have e1 := congrArg List.length HRR.out.1
            have e2 := congrArg List.length HE.out
            simp only [List.length_append, List.length_cons] at e1 e2 ⊢
            omega)
          have hkn : k + 1 < n := by omega
          have EA := Lib.hid (show P ++ (A1 ++ (y :: (z :: A2' ++ (R2 ++ Q)))) = (P ++ A1) ++ y :: (z :: (A2' ++ (R2 ++ Q))) by simp)
          have EB := Lib.hid (show P ++ (A1 ++ (y :: (z :: A2' ++ (R2 ++ Q)))) = (P ++ (A1 ++ [y])) ++ z :: (A2' ++ (R2 ++ Q)) by simp)
          have ES := Lib.hid (show P ++ (A1 ++ (y :: (z :: A2' ++ (R2 ++ Q)))) = (P ++ A1) ++ y :: ([] ++ z :: (A2' ++ (R2 ++ Q))) by simp)
          have QA : Hid (k = (P ++ A1).length) := Lib.hid (by obtain ⟨x1, x2, x3, x4⟩ := HA.out; have := HK.out.1; simp only [List.length_append]; omega)
          obtain ⟨k2, hk2⟩ : ∃ k2, k2 = k + 1 := ⟨_, rfl⟩
          have QB : Hid (k2 = (P ++ (A1 ++ [y])).length ∧ k2 = (P ++ A1).length + 1 + ([] : List Nat).length) := Lib.hid (by have := QA.out; simp only [List.length_append, List.length_cons, List.length_nil] at this ⊢; omega)
          have ea : ((k : Int) + 1).toNat = k2 := by omega
          have pa : (0 : Int) ≤ (k : Int) + 1 := by omega
          have ba : (k : Int) + 1 < (n : Int) := by omega
          have ra : IntKind.i64.wrap ((k : Int) + 1) = (k : Int) + 1 := by rw [IntKind.wrap_i64]; omega
          have hk2n : k2 < n := by omega
          clear hk2
          have S2 := HS.out
          obtain ⟨c1a, f1⟩ := S2.c1 H hlen.out EA.out QA.out
          obtain ⟨c2a, f2⟩ := S2.c1 H hlen.out EB.out QB.out.1
          obtain ⟨u3, c3⟩ := S2.c2 H hlen.out k k2 (by omega) hk2n (enc z)
          have S3 := Lib.hid (S2.swapL H ES.out QA.out QB.out.2)
          clear S2 HS QA QB EA EB ES hlen
          go_wp2_with fail
          go_big_region_o
          clear c1a c2a c3 f1 f2
          generalize ((wr.setCell ⟨blk, off + k, none⟩ (enc z)).setCell ⟨blk, off + k2, none⟩ (enc y)).drew = w3 at S3 ⊢
          clear ea
          go_wp2
          go_roundw
          case rel =>
            obtain ⟨e1, e2⟩ := HK.out
            rw [List.length_cons] at e2
            exact ⟨k + 1, A1 ++ [z], A2', by go_num, by omega, Lib.hid ⟨by simp; omega, by simp; omega⟩, Lib.hid (by rw [HE.out]; simp), Lib.hid (by simpa using S3.out)⟩
          case measure => simp [intOf]; omega
        · have hlz : ¬ (k : Int) < (i1 : Int) := by omega
          have hA2 : A2 = [] := List.eq_nil_of_length_eq_zero (by obtain ⟨x1, x2, x3, x4⟩ := HA.out; have := HK.out; omega)
          subst hA2
          go_wp2
          (try simp only [Exit.inBlock, Exit.then])
          refine bodyPost_ret (results_none rfl _ _ _) rfl ?_
          refine ⟨rfl, _, HM.out, ?_⟩
          have h := HS.out
          rw [HE.out]
          simpa using h
set_option maxHeartbeats 16000000 in
set_option maxRecDepth 1000000 in
theorem symOneR_F {enc : Nat → Value} {cf : Nat → Nat → Int} {lt : Nat → Nat → Prop} {g : Nat} {cb : Array Value} {blk off n : Nat} {d0 : Array Nat} {w0 : World} (H : SortIn enc cf lt g cb blk off n d0 w0) (cap a m b : Nat) (w : World) (P L : List Nat) (x : Nat) (Q : List Nat) (hl : P.length + L.length + 1 + Q.length = n) (ha : a = P.length) (hm : m = a + L.length) (hb : b = m + 1) (h2 : 2 ≤ L.length) (hL : L.Pairwise lt) (hc : ∀ y ∈ L, OkC lt cf y x) (S : SL enc w0 blk off (P ++ (L ++ (x :: Q))) w) :
    Calls Try.prog 67 #[.slice (some ⟨blk, off, none⟩) n cap, .int .i64 a, .int .i64 m, .int .i64 b, .func (.func g) #[] cb] w fun e w' => e = .returned (.tuple #[]) ∧ ∃ M : List Nat, Merged lt L [x] M ∧ SL enc w0 blk off (P ++ (M ++ Q)) w' := by
  have mixed := mixedT
  have hcl0 := H.row.hO.cells
  simp only [Value.cells] at hcl0
  have hst := H.row.hO.store Try.prog
  have htop := H.top
  have eg := H.eg
  have HS0 := Lib.hid S
  have HA := Lib.hid (show P.length + L.length + 1 + Q.length = n ∧ a = P.length ∧ m = a + L.length ∧ b = m + 1 from ⟨hl, ha, hm, hb⟩)
  have ham : a < m := by omega
  have hmb : m < b := by omega
  have hbn : b ≤ n := by omega
  have z1 : ¬ ((m : Int) - (a : Int) = 1) := by omega
  have z1' : (((m : Int) - (a : Int)) == 1) = false := by simp; omega
  have z2 : (b : Int) - (m : Int) = 1 := by omega
  have HR := Lib.hid (And.intro hL hc)
  clear S hl ha hm hb hL hc h2
  go_enter Try.func67, Try.ntmps67
  go_wp2
  go_loopw [14, 15] (fun vi vj wr => ∃ i j : Nat, vi = .int .i64 i ∧ vj = .int .i64 j ∧ a ≤ i ∧ i ≤ j ∧ j ≤ m ∧ Hid ((∀ (k : Nat) (h : k < L.length), a + k < i → lt L[k] x) ∧ (∀ (k : Nat) (h : k < L.length), j ≤ a + k → lt x L[k])) ∧ Hid (SL enc w0 blk off (P ++ (L ++ (x :: Q))) wr)) (fun vi vj _ => (intOf vj).toNat - (intOf vi).toNat)
  case atStart => exact ⟨a, m, rfl, rfl, Nat.le_refl _, by omega, Nat.le_refl _, Lib.hid ⟨fun k h hk => by omega, fun k h hk => by have := HA.out; omega⟩, HS0⟩
  case round =>
    clear HS0
    obtain ⟨i, j, rfl, rfl, hmi, hij, hjb, HI, HS⟩ := hrel
    have hlen := Lib.hid (show (P ++ (L ++ (x :: Q))).length = n by obtain ⟨x1, x2, x3, x4⟩ := HA.out; simp only [List.length_append, List.length_cons]; omega)
    by_cases hlt : i < j
    · have hltz : (i : Int) < (j : Int) := by omega
      obtain ⟨h, zh, hh1, hh2⟩ : ∃ h : Nat, ((i : Int) + (j : Int)) / 2 = (h : Int) ∧ i ≤ h ∧ h < j := ⟨(i + j) / 2, by omega, by omega, by omega⟩
      have hhn : h < n := by omega
      have han : m < n := by omega
      obtain ⟨k, hk⟩ : ∃ k, h = a + k := ⟨h - a, by omega⟩
      have hkl : k < L.length := by obtain ⟨x1, x2, x3, x4⟩ := HA.out; omega
      have HK := Lib.hid (And.intro hk hkl)
      clear hk
      obtain ⟨A, C, hAC, hAl⟩ := split_at hkl
      obtain ⟨y, hx⟩ : ∃ y, y = L[k] := ⟨_, rfl⟩
      have HX := Lib.hid hx
      rw [← hx] at hAC
      have EX := Lib.hid (show P ++ (L ++ (x :: Q)) = (P ++ L) ++ x :: Q by simp)
      have EY := Lib.hid (show P ++ (L ++ (x :: Q)) = (P ++ A) ++ y :: (C ++ (x :: Q)) by rw [hAC]; simp)
      have QX : Hid (m = (P ++ L).length) := Lib.hid (by obtain ⟨x1, x2, x3, x4⟩ := HA.out; simp only [List.length_append]; omega)
      have QY : Hid (h = (P ++ A).length) := Lib.hid (by obtain ⟨x1, x2, x3, x4⟩ := HA.out; have := HK.out.1; simp only [List.length_append]; omega)
      have HOK : Hid (OkC lt cf y x) := Lib.hid (HR.out.2 y (by rw [hx]; exact List.getElem_mem hkl))
      clear hAC hAl hx
      by_cases hv : cf x y < 0
      · have HLT := Lib.hid (HOK.out.1 hv)
        have l1 := HS.out.cl H hlen.out EX.out QX.out
        have l2 := HS.out.cl H hlen.out EY.out QY.out
        have hcc := HS.out.cmp H hlen.out x y
        have hd : decide (cf x y < 0) = true := decide_eq_true hv
        clear hlen EX EY QX QY
        go_wp2_with fail
        go_quiet_grown (first | (go_at_fn g; refine Calls.grown_of (hcc _ _)))
        have S2 := Lib.hid (HS.out.grown nq osq)
        clear l1 l2 hcc HS
        generalize grow (wr.drewN nq) osq = w2 at S2 ⊢
        clear nq osq
        go_wp2
        go_roundw
        case rel =>
          obtain ⟨e1, e2⟩ := HK.out
          have hl := HLT.out
          rw [HX.out] at hl
          exact ⟨i, h, rfl, rfl, hmi, hh1, by omega, Lib.hid ⟨HI.out.1, fun k' h' hk' => hi_from H.tr HR.out.1 e2 hl k' h' (by omega)⟩, S2⟩
        case measure => simp [intOf]; omega
      · have HLT := Lib.hid (HOK.out.2 hv)
        have l1 := HS.out.cl H hlen.out EX.out QX.out
        have l2 := HS.out.cl H hlen.out EY.out QY.out
        have hcc := HS.out.cmp H hlen.out x y
        have hd : decide (cf x y < 0) = false := decide_eq_false hv
        clear hlen EX EY QX QY
        go_wp2_with fail
        go_quiet_grown (first | (go_at_fn g; refine Calls.grown_of (hcc _ _)))
        have S2 := Lib.hid (HS.out.grown nq osq)
        clear l1 l2 hcc HS
        generalize grow (wr.drewN nq) osq = w2 at S2 ⊢
        clear nq osq
        go_wp2
        go_roundw
        case rel =>
          obtain ⟨e1, e2⟩ := HK.out
          have hl := HLT.out
          rw [HX.out] at hl
          exact ⟨h + 1, j, by first | rfl | go_num, rfl, by omega, by omega, hjb, Lib.hid ⟨fun k' h' hk' => lo_upto H.tr HR.out.1 e2 hl k' h' (by omega), HI.out.2⟩, S2⟩
        case measure => simp [intOf]; omega
    · have hltz : ¬ (i : Int) < (j : Int) := by omega
      have HM : Hid (Merged lt L [x] (L.take (i - a) ++ x :: L.drop (i - a))) := Lib.hid (merged_right HR.out.1 (take_all (fun k h hk => HI.out.1 k h (by omega))) (drop_all (fun k h hk => HI.out.2 k h (by omega))))
      obtain ⟨L1, hL1⟩ : ∃ L1, L1 = L.take (i - a) := ⟨_, rfl⟩
      obtain ⟨L2, hL2⟩ : ∃ L2, L2 = L.drop (i - a) := ⟨_, rfl⟩
      have HLL : Hid (L = L1 ++ L2 ∧ L1.length + a = i) := Lib.hid ⟨by rw [hL1, hL2, List.take_append_drop], by obtain ⟨x1, x2, x3, x4⟩ := HA.out; rw [hL1, List.length_take]; omega⟩
      rw [← hL1, ← hL2] at HM
      have HS1 : Hid (SL enc w0 blk off (P ++ (L1 ++ (L2 ++ (x :: Q)))) wr) := Lib.hid (by have h := HS.out; rw [HLL.out.1] at h; simpa using h)
      clear hL1 hL2 HS hlen
      go_wp2
      go_loopw [17] (fun vk wr => ∃ (k : Nat) (A1 A2 : List Nat), vk = .int .i64 k ∧ i ≤ k ∧ k ≤ m ∧ Hid (k = i + A1.length) ∧ Hid (L2 = A1 ++ A2) ∧ Hid (SL enc w0 blk off (P ++ (L1 ++ (A1 ++ (x :: (A2 ++ Q))))) wr)) (fun vk _ => (intOf vk).toNat - i)
      case atStart => exact ⟨m, L2, [], rfl, by omega, Nat.le_refl _, Lib.hid (by obtain ⟨x1, x2, x3, x4⟩ := HA.out; have e := congrArg List.length HLL.out.1; have := HLL.out.2; rw [List.length_append] at e; omega), Lib.hid (by simp), HS1⟩
      case round =>
        clear HS1
        obtain ⟨k, A1, A2, rfl, hki, hkm, HK, HE, HS⟩ := hrel
        by_cases hlk : i < k
        · have hlz : (i : Int) < (k : Int) := by omega
          rcases List.eq_nil_or_concat A1 with hA1 | ⟨A1', z, hA1⟩
          · subst hA1
            exact absurd HK.out (by simp; omega)
          · rw [List.concat_eq_append] at hA1
            subst hA1
            have hlen := Lib.hid (show (P ++ (L1 ++ (A1' ++ [z] ++ (x :: (A2 ++ Q))))).length = n by
              obtain ⟨x1, x2, x3, x4⟩ := HA.out
              have e1 := congrArg List.length HLL.out.1
              have e2 := congrArg List.length HE.out
              simp only [List.length_append, List.length_cons, List.length_nil] at e1 e2 ⊢
              omega)
            have EA := Lib.hid (show P ++ (L1 ++ (A1' ++ [z] ++ (x :: (A2 ++ Q)))) = (P ++ (L1 ++ A1')) ++ z :: (x :: (A2 ++ Q)) by simp)
            have EB := Lib.hid (show P ++ (L1 ++ (A1' ++ [z] ++ (x :: (A2 ++ Q)))) = (P ++ (L1 ++ (A1' ++ [z]))) ++ x :: (A2 ++ Q) by simp)
            have ES := Lib.hid (show P ++ (L1 ++ (A1' ++ [z] ++ (x :: (A2 ++ Q)))) = (P ++ (L1 ++ A1')) ++ z :: ([] ++ x :: (A2 ++ Q)) by simp)
            obtain ⟨kp, zk, hkp⟩ : ∃ kp : Nat, (k : Int) = (kp : Int) + 1 ∧ kp + 1 ≤ k ∧ k ≤ kp + 1 := ⟨k - 1, by omega, by omega⟩
            have QA : Hid (kp = (P ++ (L1 ++ A1')).length) := Lib.hid (by obtain ⟨x1, x2, x3, x4⟩ := HA.out; have := HK.out; have := HLL.out.2; simp only [List.length_append, List.length_cons, List.length_nil] at *; omega)
            obtain ⟨k2, hk2⟩ : ∃ k2, k2 = kp + 1 := ⟨_, rfl⟩
            have QB : Hid (k2 = (P ++ (L1 ++ (A1' ++ [z]))).length ∧ k2 = (P ++ (L1 ++ A1')).length + 1 + ([] : List Nat).length) := Lib.hid (by have := QA.out; simp only [List.length_append, List.length_cons, List.length_nil] at this ⊢; omega)
            have ea : ((kp : Int) + 1).toNat = k2 := by omega
            have pa : (0 : Int) ≤ (kp : Int) + 1 := by omega
            have ba : (kp : Int) + 1 < (n : Int) := by omega
            have ra : IntKind.i64.wrap ((kp : Int) + 1) = (kp : Int) + 1 := by rw [IntKind.wrap_i64]; omega
            have ba2 : (kp : Int) < (n : Int) := by omega
            have ra2 : IntKind.i64.wrap ((kp : Int)) = (kp : Int) := by rw [IntKind.wrap_i64]; omega
            have hk2n : k2 < n := by omega
            have hlz2 : (i : Int) < (kp : Int) + 1 := by omega
            clear hk2
            have S2 := HS.out
            obtain ⟨c1a, f1⟩ := S2.c1 H hlen.out EA.out QA.out
            obtain ⟨c2a, f2⟩ := S2.c1 H hlen.out EB.out QB.out.1
            obtain ⟨u3, c3⟩ := S2.c2 H hlen.out k2 kp hk2n (by omega) (enc z)
            have S3 := Lib.hid (S2.swapR H ES.out QA.out QB.out.2)
            clear S2 HS QA QB EA EB ES hlen
            go_wp2_with fail
            go_big_region_o
            clear c1a c2a c3 f1 f2
            generalize ((wr.setCell ⟨blk, off + k2, none⟩ (enc z)).setCell ⟨blk, off + kp, none⟩ (enc x)).drew = w3 at S3 ⊢
            clear ea
            go_wp2
            go_roundw
            case rel =>
              have e1 := HK.out
              simp only [List.length_append, List.length_cons, List.length_nil] at e1
              exact ⟨kp, A1', z :: A2, by first | rfl | go_num | (congr 1; omega), by omega, by omega, Lib.hid (by omega), Lib.hid (by rw [HE.out]; simp), Lib.hid (by simpa using S3.out)⟩
            case measure => simp [intOf]; omega
        · have hlz : ¬ (i : Int) < (k : Int) := by omega
          have hA1 : A1 = [] := List.eq_nil_of_length_eq_zero (by have := HK.out; omega)
          subst hA1
          go_wp2
          (try simp only [Exit.inBlock, Exit.then])
          refine bodyPost_ret (results_none rfl _ _ _) rfl ?_
          refine ⟨rfl, _, HM.out, ?_⟩
          have h := HS.out
          rw [HE.out]
          simpa using h
end Go.Proofs.Ytbojlgbkkdnegaa
