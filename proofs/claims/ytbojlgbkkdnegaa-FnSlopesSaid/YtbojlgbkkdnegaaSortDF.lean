/- Two lists in order made one. -/
import Derived.Test.YtbojlgbkkdnegaaSortCF
import Derived.Deep.Cut
namespace Go.Proofs.Ytbojlgbkkdnegaa
open Go.Shelf Go.RowKit Go.Lib Go.Sort
set_option maxHeartbeats 16000000 in
set_option maxRecDepth 1000000 in
/-- two lists of two or more -/
theorem symMain_F {enc : Nat → Value} {cf : Nat → Nat → Int} {lt : Nat → Nat → Prop} {g : Nat} {cb : Array Value} {blk off n : Nat} {d0 : Array Nat} {w0 : World} (H : SortIn enc cf lt g cb blk off n d0 w0) (cap a m b : Nat) (w : World) (P L R Q : List Nat) (hl : P.length + L.length + R.length + Q.length = n) (ha : a = P.length) (hm : m = a + L.length) (hb : b = m + R.length) (hL2 : 2 ≤ L.length) (hR2 : 2 ≤ R.length) (hL : L.Pairwise lt) (hR : R.Pairwise lt) (hc : Cross (OkC lt cf) L R) (S : SL enc w0 blk off (P ++ (L ++ (R ++ Q))) w)
    (IH : ∀ (a' m' b' : Nat) (w' : World) (P' L' R' Q' : List Nat), L'.length + R'.length < L.length + R.length → P'.length + L'.length + R'.length + Q'.length = n → a' = P'.length → m' = a' + L'.length → b' = m' + R'.length → 0 < L'.length → 0 < R'.length → L'.Pairwise lt → R'.Pairwise lt → Cross (OkC lt cf) L' R' → SL enc w0 blk off (P' ++ (L' ++ (R' ++ Q'))) w' →
      Calls Try.prog 67 #[.slice (some ⟨blk, off, none⟩) n cap, .int .i64 a', .int .i64 m', .int .i64 b', .func (.func g) #[] cb] w' fun e w'' => e = .returned (.tuple #[]) ∧ ∃ M : List Nat, Merged lt L' R' M ∧ SL enc w0 blk off (P' ++ (M ++ Q')) w'') :
    Calls Try.prog 67 #[.slice (some ⟨blk, off, none⟩) n cap, .int .i64 a, .int .i64 m, .int .i64 b, .func (.func g) #[] cb] w fun e w' => e = .returned (.tuple #[]) ∧ ∃ M : List Nat, Merged lt L R M ∧ SL enc w0 blk off (P ++ (M ++ Q)) w' := by
  have mixed := mixedT
  have hcl0 := H.row.hO.cells
  simp only [Value.cells] at hcl0
  have hst := H.row.hO.store Try.prog
  have htop := H.top
  have eg := H.eg
  have HS0 := Lib.hid S
  have HA := Lib.hid (show P.length + L.length + R.length + Q.length = n ∧ a = P.length ∧ m = a + L.length ∧ b = m + R.length ∧ 2 ≤ L.length ∧ 2 ≤ R.length from ⟨hl, ha, hm, hb, hL2, hR2⟩)
  have HR := Lib.hid (And.intro hL (And.intro hR hc))
  have HIH := Lib.hid IH
  have ham : a + 2 ≤ m := by omega
  have hmb : m + 2 ≤ b := by omega
  have hbn : b ≤ n := by omega
  have z1 : ¬ ((m : Int) - (a : Int) = 1) := by omega
  have z1' : (((m : Int) - (a : Int)) == 1) = false := by simp; omega
  have z2 : ¬ ((b : Int) - (m : Int) = 1) := by omega
  have z2' : (((b : Int) - (m : Int)) == 1) = false := by simp; omega
  obtain ⟨md, zmd, hmd1, hmd2, hmd3, hmd4⟩ : ∃ md : Nat, ((a : Int) + (b : Int)) / 2 = (md : Int) ∧ a < md ∧ md < b ∧ 2 * md ≤ a + b ∧ a + b ≤ 2 * md + 1 := ⟨(a + b) / 2, by omega, by omega, by omega, by omega, by omega⟩
  have HMD := Lib.hid (And.intro hmd3 hmd4)
  obtain ⟨nn, znn⟩ : ∃ nn : Nat, (md : Int) + (m : Int) = (nn : Int) := ⟨md + m, by omega⟩
  have HNN : Hid (nn = md + m) := Lib.hid (by omega)
  have hnn1 : md + a + 2 ≤ nn := by omega
  have hnn2 : nn ≤ md + b := by omega
  clear S hl ha hm hb hL2 hR2 hL hR hc IH hmd3 hmd4
  go_enter Try.func67, Try.ntmps67
  go_upto_if 140 with fail
  go_cut [20, 21] from 25 (fun s20 s21 wx => ∃ s0 r0 : Nat, s20 = .int .i64 s0 ∧ s21 = .int .i64 r0 ∧ a ≤ s0 ∧ s0 ≤ r0 ∧ r0 ≤ m ∧ r0 ≤ md ∧ md + m ≤ b + s0 ∧ Hid ((md < m ∧ s0 + b = md + m ∧ r0 = md) ∨ (m ≤ md ∧ s0 = a ∧ r0 = m)) ∧ Hid (SL enc w0 blk off (P ++ (L ++ (R ++ Q))) wx))
  case first =>
    as_aux_lemma =>
      by_cases hmm : md < m
      · have hmmz : (md : Int) < (m : Int) := by omega
        have HF : Hid (b ≤ md + m ∧ a + b ≤ md + m) := Lib.hid (by obtain ⟨x1, x2, x3, x4, x5, x6⟩ := HA.out; obtain ⟨y1, y2⟩ := HMD.out; omega)
        obtain ⟨hf1, hf2⟩ := HF.out
        obtain ⟨s0, zs0⟩ : ∃ s0 : Nat, (nn : Int) - (b : Int) = (s0 : Int) := ⟨md + m - b, by have := HNN.out; omega⟩
        have HS00 : Hid (s0 + b = md + m) := Lib.hid (by have := HNN.out; omega)
        go_wp2_with fail
        go_meet
        case rel => have := HS00.out; exact ⟨s0, md, rfl, rfl, by omega, by omega, by omega, Nat.le_refl _, by omega, Lib.hid (.inl ⟨hmm, this, rfl⟩), HS0⟩
      · have hmmz : ¬ (md : Int) < (m : Int) := by omega
        go_wp2_with fail
        go_meet
        case rel => exact ⟨a, m, rfl, rfl, Nat.le_refl _, by omega, Nat.le_refl _, by omega, by obtain ⟨x1, x2, x3, x4, x5, x6⟩ := HA.out; obtain ⟨y1, y2⟩ := HMD.out; omega, Lib.hid (.inr ⟨by omega, rfl, rfl⟩), HS0⟩
  case rest =>
  obtain ⟨s0, r0, rfl, rfl, h1, h2, h3, h4, h5, HCS, HS1⟩ := hcut
  clear HS0
  obtain ⟨pp, zpp, hpp1, hpp2⟩ : ∃ pp : Nat, (nn : Int) - 1 = (pp : Int) ∧ pp + 1 ≤ nn ∧ nn ≤ pp + 1 := ⟨nn - 1, by omega, by omega, by omega⟩
  have hnn3 : nn < 2 * n := by have := HNN.out; omega
  go_upto_region 32 with fail
  go_wp2_with fail
  go_loopw [20, 21] (fun vs vr wr => ∃ s r : Nat, vs = .int .i64 s ∧ vr = .int .i64 r ∧ s0 ≤ s ∧ s ≤ r ∧ r ≤ r0 ∧ Hid ((∀ (h1 : s - 1 - a < L.length) (h2 : md - s < R.length), s0 < s → lt L[s - 1 - a] R[md - s]) ∧ (∀ (h1 : md - 1 - r < R.length) (h2 : r - a < L.length), r < r0 → lt R[md - 1 - r] L[r - a])) ∧ Hid (SL enc w0 blk off (P ++ (L ++ (R ++ Q))) wr)) (fun vs vr _ => (intOf vr).toNat - (intOf vs).toNat)
  case atStart => exact ⟨s0, r0, rfl, rfl, Nat.le_refl _, h2, Nat.le_refl _, Lib.hid ⟨fun _ _ h => absurd h (Nat.lt_irrefl _), fun _ _ h => absurd h (Nat.lt_irrefl _)⟩, HS1⟩
  case round =>
    clear HS1
    obtain ⟨s, r, rfl, rfl, hs0, hsr, hr0, HI, HS⟩ := hrel
    have hlen := Lib.hid (show (P ++ (L ++ (R ++ Q))).length = n by obtain ⟨x1, x2, x3, x4, x5, x6⟩ := HA.out; simp only [List.length_append]; omega)
    by_cases hlt : s < r
    · as_aux_lemma =>
        have hltz : (s : Int) < (r : Int) := by omega
        obtain ⟨c, zc, hc1, hc2⟩ : ∃ c : Nat, ((s : Int) + (r : Int)) / 2 = (c : Int) ∧ s ≤ c ∧ c < r := ⟨(s + r) / 2, by omega, by omega, by omega⟩
        obtain ⟨e, ze⟩ : ∃ e : Nat, (pp : Int) - (c : Int) = (e : Int) := ⟨pp - c, by omega⟩
        have hcn : c < n := by omega
        have HEE : Hid (e = m + (md - 1 - c)) := Lib.hid (by have := HNN.out; omega)
        have hen : e < n := by have := HEE.out; omega
        have ra : IntKind.i64.wrap ((e : Int)) = (e : Int) := by rw [IntKind.wrap_i64]; omega
        have ba : (e : Int) < (n : Int) := by omega
        have hkL : c - a < L.length := by obtain ⟨x1, x2, x3, x4, x5, x6⟩ := HA.out; omega
        have hkR : md - 1 - c < R.length := by obtain ⟨x1, x2, x3, x4, x5, x6⟩ := HA.out; omega
        obtain ⟨A, C, hAC, hAl⟩ := split_at hkL
        obtain ⟨A', C', hAC', hAl'⟩ := split_at hkR
        obtain ⟨y, hy⟩ : ∃ y, y = L[c - a] := ⟨_, rfl⟩
        obtain ⟨x, hx⟩ : ∃ x, x = R[md - 1 - c] := ⟨_, rfl⟩
        have HX := Lib.hid hx
        have HY := Lib.hid hy
        rw [← hy] at hAC
        rw [← hx] at hAC'
        have EX := Lib.hid (show P ++ (L ++ (R ++ Q)) = (P ++ (L ++ A')) ++ x :: (C' ++ Q) by rw [hAC']; simp)
        have EY := Lib.hid (show P ++ (L ++ (R ++ Q)) = (P ++ A) ++ y :: (C ++ (R ++ Q)) by rw [hAC]; simp)
        have QX : Hid (e = (P ++ (L ++ A')).length) := Lib.hid (by obtain ⟨x1, x2, x3, x4, x5, x6⟩ := HA.out; have := HEE.out; simp only [List.length_append]; omega)
        have QY : Hid (c = (P ++ A).length) := Lib.hid (by obtain ⟨x1, x2, x3, x4, x5, x6⟩ := HA.out; simp only [List.length_append]; omega)
        have HOK : Hid (OkC lt cf y x) := Lib.hid (HR.out.2.2 y (by rw [hy]; exact List.getElem_mem hkL) x (by rw [hx]; exact List.getElem_mem hkR))
        clear hAC hAl hAC' hAl' hx hy
        by_cases hv : cf x y < 0
        · as_aux_lemma =>
            have HLT := Lib.hid (HOK.out.1 hv)
            have l1 := HS.out.cl H hlen.out EX.out QX.out
            have l2 := HS.out.cl H hlen.out EY.out QY.out
            have hcc := HS.out.cmp H hlen.out x y
            have hd : decide (cf x y < 0) = true := decide_eq_true hv
            clear hlen EX EY QX QY
            go_wp2_with fail
            go_quiet_grown (first | (go_at_fn g; refine Calls.grown_of (hcc _ _)))
            have S2 := Lib.hid (HS.out.grown nq osq)
            clear l1 l2 hcc HS
            generalize grow (wr.drewN nq) osq = w2 at S2 ⊢
            clear nq osq
            go_wp2
            go_roundw
            case rel =>
              have hl := HLT.out
              rw [HX.out, HY.out] at hl
              exact ⟨s, c, rfl, rfl, hs0, hc1, by omega, Lib.hid ⟨HI.out.1, fun _ _ _ => hl⟩, S2⟩
            case measure => simp [intOf]; omega
        · as_aux_lemma =>
            have HLT := Lib.hid (HOK.out.2 hv)
            have l1 := HS.out.cl H hlen.out EX.out QX.out
            have l2 := HS.out.cl H hlen.out EY.out QY.out
            have hcc := HS.out.cmp H hlen.out x y
            have hd : decide (cf x y < 0) = false := decide_eq_false hv
            clear hlen EX EY QX QY
            go_wp2_with fail
            go_quiet_grown (first | (go_at_fn g; refine Calls.grown_of (hcc _ _)))
            have S2 := Lib.hid (HS.out.grown nq osq)
            clear l1 l2 hcc HS
            generalize grow (wr.drewN nq) osq = w2 at S2 ⊢
            clear nq osq
            go_wp2
            go_roundw
            case rel =>
              have hl := HLT.out
              rw [HX.out, HY.out] at hl
              refine ⟨c + 1, r, by first | rfl | go_num, rfl, by omega, by omega, hr0, Lib.hid ⟨fun _ _ _ => ?_, HI.out.2⟩, S2⟩
              simp only [show c + 1 - 1 - a = c - a by omega, show md - (c + 1) = md - 1 - c by omega]
              exact hl
            case measure => simp [intOf]; omega
    · as_aux_lemma =>
        have hltz : ¬ (s : Int) < (r : Int) := by omega
        obtain rfl : s = r := by omega
        obtain ⟨en, zen⟩ : ∃ en : Nat, (nn : Int) - (s : Int) = (en : Int) := ⟨nn - s, by omega⟩
        have HEN : Hid (en + s = md + m) := Lib.hid (by have := HNN.out; omega)
        have hCross : Cross lt (L.take (s - a) ++ R.take (md - s)) (L.drop (s - a) ++ R.drop (md - s)) := by
          obtain ⟨x1, x2, x3, x4, x5, x6⟩ := HA.out
          obtain ⟨y1, y2⟩ := HMD.out
          obtain ⟨i1, i2⟩ := HI.out
          refine cut_lt H.tr HR.out.1 HR.out.2.1 (by omega) (by omega) (fun hk hr h0 => ?_) (fun hr hk h0 => ?_)
          · have hss : s0 < s := by
              rcases HCS.out with ⟨c1, c2, c3⟩ | ⟨c1, c2, c3⟩ <;> omega
            have := i1 (by omega) hr hss
            simp only [show s - 1 - a = s - a - 1 by omega] at this
            exact this
          · have hss : s < r0 := by
              rcases HCS.out with ⟨c1, c2, c3⟩ | ⟨c1, c2, c3⟩ <;> omega
            have := i2 (by omega) hk hss
            simp only [show md - 1 - s = md - s - 1 by omega] at this
            exact this
        obtain ⟨L1, hL1⟩ : ∃ L1, L1 = L.take (s - a) := ⟨_, rfl⟩
        obtain ⟨L2, hL2⟩ : ∃ L2, L2 = L.drop (s - a) := ⟨_, rfl⟩
        obtain ⟨R1, hR1⟩ : ∃ R1, R1 = R.take (md - s) := ⟨_, rfl⟩
        obtain ⟨R2, hR2⟩ : ∃ R2, R2 = R.drop (md - s) := ⟨_, rfl⟩
        have HLR : Hid (L = L1 ++ L2 ∧ R = R1 ++ R2) := Lib.hid ⟨by rw [hL1, hL2, List.take_append_drop], by rw [hR1, hR2, List.take_append_drop]⟩
        have HLE : Hid (P.length + L1.length = s ∧ s + L2.length = m ∧ m + R1.length = en ∧ en + R2.length = b ∧ P.length = a ∧ s + R1.length = md ∧ b + Q.length = n ∧ L1.length + L2.length = L.length ∧ R1.length + R2.length = R.length) := Lib.hid (by
          obtain ⟨x1, x2, x3, x4, x5, x6⟩ := HA.out
          have := HEN.out
          rw [hL1, hL2, hR1, hR2, List.length_take, List.length_drop, List.length_take, List.length_drop]
          omega)
        rw [← hL1, ← hL2, ← hR1, ← hR2] at hCross
        have HCR := Lib.hid hCross
        have HP1 : Hid (L1.Pairwise lt ∧ L2.Pairwise lt ∧ R1.Pairwise lt ∧ R2.Pairwise lt ∧ Cross (OkC lt cf) L1 R1 ∧ Cross (OkC lt cf) L2 R2) := Lib.hid (by
          obtain ⟨p1, p2, p3⟩ := HR.out
          rw [HLR.out.1] at p1
          rw [HLR.out.2] at p2
          obtain ⟨q1, q2, _⟩ := List.pairwise_append.1 p1
          obtain ⟨q3, q4, _⟩ := List.pairwise_append.1 p2
          rw [HLR.out.1, HLR.out.2] at p3
          exact ⟨q1, q2, q3, q4, p3.sub (fun z hz => List.mem_append_left _ hz) (fun z hz => List.mem_append_left _ hz), p3.sub (fun z hz => List.mem_append_right _ hz) (fun z hz => List.mem_append_right _ hz)⟩)
        have SA : Hid (SL enc w0 blk off (P ++ (L1 ++ (L2 ++ (R1 ++ (R2 ++ Q))))) wr) := Lib.hid (by have h := HS.out; rw [HLR.out.1, HLR.out.2] at h; simpa using h)
        have hen1 : m ≤ en := by have := HLE.out; omega
        have hen2 : en ≤ b := by have := HLE.out; omega
        clear hL1 hL2 hR1 hR2 HS hlen hCross
        go_upto_region 39 with fail
        go_cut [185] from 25 (fun s185 wx => s185 = .bool (decide (s < m ∧ m < en)) ∧ Hid (SL enc w0 blk off (P ++ (L1 ++ (L2 ++ (R1 ++ (R2 ++ Q))))) wx))
        case first =>
          as_aux_lemma =>
            by_cases c1 : s < m
            · have c1z : (s : Int) < (m : Int) := by omega
              by_cases c2 : m < en
              · have c2z : (m : Int) < (en : Int) := by omega
                go_wp2_with fail
                go_meet
                case rel => exact ⟨congrArg Value.bool (decide_eq_true (p := s < m ∧ m < en) ⟨c1, c2⟩).symm, SA⟩
              · have c2z : ¬ ((m : Int) < (en : Int)) := by omega
                go_wp2_with fail
                go_meet
                case rel => exact ⟨congrArg Value.bool (decide_eq_false (p := s < m ∧ m < en) (fun h => c2 h.2)).symm, SA⟩
            · have c1z : ¬ ((s : Int) < (m : Int)) := by omega
              go_wp2_with fail
              go_meet
              case rel => exact ⟨congrArg Value.bool (decide_eq_false (p := s < m ∧ m < en) (fun h => c1 h.1)).symm, SA⟩
        case rest =>
        obtain ⟨rfl, SB⟩ := hcut
        obtain ⟨bb, hbb⟩ : ∃ bb, bb = decide (s < m ∧ m < en) := ⟨_, rfl⟩
        have HBB := Lib.hid hbb
        rw [← hbb]
        clear hbb SA
        rename_i wcur
        go_upto_if 185 with fail
        go_cut [] from 25 (fun wx => Hid (SL enc w0 blk off (P ++ (L1 ++ (R1 ++ (L2 ++ (R2 ++ Q))))) wx))
        case first =>
          as_aux_lemma =>
            cases bb
            · have hfalse := of_decide_eq_false HBB.out.symm
              clear HBB
              go_wp2_with fail
              go_meet
              case rel => exact Lib.hid (by
                have h := SB.out
                have hz : L2 = [] ∨ R1 = [] := by
                  rcases Nat.eq_zero_or_pos L2.length with h0 | h0
                  · exact .inl (List.eq_nil_of_length_eq_zero h0)
                  · right
                    refine List.eq_nil_of_length_eq_zero ?_
                    have := HLE.out
                    rcases Nat.eq_zero_or_pos R1.length with h1 | h1
                    · exact h1
                    · exact absurd (show s < m ∧ m < en by omega) hfalse
                rcases hz with hz | hz <;> subst hz <;> simpa using h)
            · obtain ⟨c1, c2⟩ := of_decide_eq_true HBB.out.symm
              clear HBB
              have HC := Lib.hid (fun (W : World) (hS : SL enc w0 blk off ((P ++ L1) ++ (L2 ++ (R1 ++ (R2 ++ Q)))) W) => rotate_F H cap s m en W (P ++ L1) L2 R1 (R2 ++ Q) (by have := HLE.out; simp only [List.length_append]; omega) (by have := HLE.out; simp only [List.length_append]; omega) (by have := HLE.out; omega) (by have := HLE.out; omega) (by have := HLE.out; omega) (by have := HLE.out; omega) hS)
              go_wp2_with fail
              refine (HC.out _ (by have h := SB.out; simpa using h)).mono ?_
              rintro e w3 ⟨rfl, hS⟩
              have S3 := Lib.hid hS
              clear hS
              go_wp2_with fail
              go_meet
              case rel => exact Lib.hid (by have h := S3.out; simpa using h)
        case rest =>
        have SC := hcut
        clear hcut
        go_upto_region 41 with fail
        go_cut [199] from 25 (fun s199 wx => s199 = .bool (decide (a < s ∧ s < md)) ∧ Hid (SL enc w0 blk off (P ++ (L1 ++ (R1 ++ (L2 ++ (R2 ++ Q))))) wx))
        case first =>
          as_aux_lemma =>
            by_cases c1 : a < s
            · have c1z : (a : Int) < (s : Int) := by omega
              by_cases c2 : s < md
              · have c2z : (s : Int) < (md : Int) := by omega
                go_wp2_with fail
                go_meet
                case rel => exact ⟨congrArg Value.bool (decide_eq_true (p := a < s ∧ s < md) ⟨c1, c2⟩).symm, SC⟩
              · have c2z : ¬ ((s : Int) < (md : Int)) := by omega
                go_wp2_with fail
                go_meet
                case rel => exact ⟨congrArg Value.bool (decide_eq_false (p := a < s ∧ s < md) (fun h => c2 h.2)).symm, SC⟩
            · have c1z : ¬ ((a : Int) < (s : Int)) := by omega
              go_wp2_with fail
              go_meet
              case rel => exact ⟨congrArg Value.bool (decide_eq_false (p := a < s ∧ s < md) (fun h => c1 h.1)).symm, SC⟩
        case rest =>
        obtain ⟨rfl, SD⟩ := hcut
        obtain ⟨bb, hbb⟩ : ∃ bb, bb = decide (a < s ∧ s < md) := ⟨_, rfl⟩
        have HBB := Lib.hid hbb
        rw [← hbb]
        clear hbb SC
        rename_i wcur
        go_upto_if 199 with fail
        go_cut [] from 25 (fun wx => ∃ M1 : List Nat, Hid (Merged lt L1 R1 M1) ∧ Hid (SL enc w0 blk off (P ++ (M1 ++ (L2 ++ (R2 ++ Q)))) wx))
        case first =>
          as_aux_lemma =>
            cases bb
            · have hfalse := of_decide_eq_false HBB.out.symm
              clear HBB
              go_wp2_with fail
              go_meet
              case rel => 
                refine ⟨L1 ++ R1, Lib.hid ?_, Lib.hid (by have h := SD.out; simpa using h)⟩
                rcases Nat.eq_zero_or_pos L1.length with h0 | h0
                · obtain rfl := List.eq_nil_of_length_eq_zero h0
                  exact merged_nil_left HP1.out.2.2.1
                · have h1 : R1.length = 0 := by
                    have := HLE.out
                    rcases Nat.eq_zero_or_pos R1.length with h1 | h1
                    · exact h1
                    · exact absurd (show a < s ∧ s < md by omega) hfalse
                  obtain rfl := List.eq_nil_of_length_eq_zero h1
                  rw [List.append_nil]
                  exact merged_nil_right HP1.out.1
            · obtain ⟨c1, c2⟩ := of_decide_eq_true HBB.out.symm
              clear HBB
              have HC := Lib.hid (fun (W : World) (hS : SL enc w0 blk off (P ++ (L1 ++ (R1 ++ (L2 ++ (R2 ++ Q))))) W) => HIH.out a s md W P L1 R1 (L2 ++ (R2 ++ Q)) (by have := HLE.out; have := HA.out; omega) (by have := HLE.out; simp only [List.length_append]; omega) (by have := HLE.out; omega) (by have := HLE.out; omega) (by have := HLE.out; omega) (by have := HLE.out; omega) (by have := HLE.out; omega) HP1.out.1 HP1.out.2.2.1 HP1.out.2.2.2.2.1 hS)
              go_wp2_with fail
              refine (HC.out _ SD.out).mono ?_
              rintro e w3 ⟨rfl, M1, hM, hS⟩
              have S3 := Lib.hid hS
              have HM1 := Lib.hid hM
              clear hS hM
              go_wp2_with fail
              go_meet
              case rel => exact ⟨M1, HM1, S3⟩
        case rest =>
        obtain ⟨M1, HM1, SE⟩ := hcut
        go_upto_region 43 with fail
        go_cut [213] from 25 (fun s213 wx => s213 = .bool (decide (md < en ∧ en < b)) ∧ Hid (SL enc w0 blk off (P ++ (M1 ++ (L2 ++ (R2 ++ Q)))) wx))
        case first =>
          as_aux_lemma =>
            by_cases c1 : md < en
            · have c1z : (md : Int) < (en : Int) := by omega
              by_cases c2 : en < b
              · have c2z : (en : Int) < (b : Int) := by omega
                go_wp2_with fail
                go_meet
                case rel => exact ⟨congrArg Value.bool (decide_eq_true (p := md < en ∧ en < b) ⟨c1, c2⟩).symm, SE⟩
              · have c2z : ¬ ((en : Int) < (b : Int)) := by omega
                go_wp2_with fail
                go_meet
                case rel => exact ⟨congrArg Value.bool (decide_eq_false (p := md < en ∧ en < b) (fun h => c2 h.2)).symm, SE⟩
            · have c1z : ¬ ((md : Int) < (en : Int)) := by omega
              go_wp2_with fail
              go_meet
              case rel => exact ⟨congrArg Value.bool (decide_eq_false (p := md < en ∧ en < b) (fun h => c1 h.1)).symm, SE⟩
        case rest =>
        obtain ⟨rfl, SF⟩ := hcut
        obtain ⟨bb, hbb⟩ : ∃ bb, bb = decide (md < en ∧ en < b) := ⟨_, rfl⟩
        have HBB := Lib.hid hbb
        rw [← hbb]
        clear hbb SE
        rename_i wcur
        have HML : Hid (M1.length = L1.length + R1.length) := Lib.hid (by have h := HM1.out.1.length_eq; rw [List.length_append] at h; exact h)
        cases bb
        · have hfalse := of_decide_eq_false HBB.out.symm
          clear HBB
          go_wp2
          go_end0
          have hz : Merged lt L2 R2 (L2 ++ R2) := by
            rcases Nat.eq_zero_or_pos L2.length with h0 | h0
            · obtain rfl := List.eq_nil_of_length_eq_zero h0
              exact merged_nil_left HP1.out.2.2.2.1
            · have h1 : R2.length = 0 := by
                have := HLE.out
                rcases Nat.eq_zero_or_pos R2.length with h1 | h1
                · exact h1
                · exact absurd (show md < en ∧ en < b by omega) hfalse
              obtain rfl := List.eq_nil_of_length_eq_zero h1
              rw [List.append_nil]
              exact merged_nil_right HP1.out.2.1
          refine ⟨rfl, M1 ++ (L2 ++ R2), ?_, by have h := SF.out; simpa using h⟩
          rw [HLR.out.1, HLR.out.2]
          exact merged_join HM1.out hz HCR.out
        · obtain ⟨c1, c2⟩ := of_decide_eq_true HBB.out.symm
          clear HBB
          have HC := Lib.hid (fun (W : World) (hS : SL enc w0 blk off ((P ++ M1) ++ (L2 ++ (R2 ++ Q))) W) => HIH.out md en b W (P ++ M1) L2 R2 Q (by have := HLE.out; have := HA.out; omega) (by have := HLE.out; have := HML.out; simp only [List.length_append]; omega) (by have := HLE.out; have := HML.out; simp only [List.length_append]; omega) (by have := HLE.out; omega) (by have := HLE.out; omega) (by have := HLE.out; omega) (by have := HLE.out; omega) HP1.out.2.1 HP1.out.2.2.2.1 HP1.out.2.2.2.2.2 hS)
          go_wp2_with fail
          refine (HC.out _ (by have h := SF.out; simpa using h)).mono ?_
          rintro e w3 ⟨rfl, M2, hM, hS⟩
          have S3 := Lib.hid hS
          have HM2 := Lib.hid hM
          clear hS hM
          go_wp2
          go_end0
          refine ⟨rfl, M1 ++ M2, ?_, by have h := S3.out; simpa using h⟩
          rw [HLR.out.1, HLR.out.2]
          exact merged_join HM1.out HM2.out HCR.out
end Go.Proofs.Ytbojlgbkkdnegaa
