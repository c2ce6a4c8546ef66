/- slices.SortStableFunc. -/
import Derived.Test.YtbojlgbkkdnegaaSortDF
namespace Go.Proofs.Ytbojlgbkkdnegaa
open Go.Shelf Go.RowKit Go.Lib Go.Sort
/-- symMerge: two lists in order made one -/
theorem symMerge_F {enc : Nat → Value} {cf : Nat → Nat → Int} {lt : Nat → Nat → Prop} {g : Nat} {cb : Array Value} {blk off n : Nat} {d0 : Array Nat} {w0 : World} (H : SortIn enc cf lt g cb blk off n d0 w0) (cap : Nat) : ∀ (N a m b : Nat) (w : World) (P L R Q : List Nat), L.length + R.length ≤ N → P.length + L.length + R.length + Q.length = n → a = P.length → m = a + L.length → b = m + R.length → 0 < L.length → 0 < R.length → L.Pairwise lt → R.Pairwise lt → Cross (OkC lt cf) L R → SL enc w0 blk off (P ++ (L ++ (R ++ Q))) w →
    Calls Try.prog 67 #[.slice (some ⟨blk, off, none⟩) n cap, .int .i64 a, .int .i64 m, .int .i64 b, .func (.func g) #[] cb] w fun e w' => e = .returned (.tuple #[]) ∧ ∃ M : List Nat, Merged lt L R M ∧ SL enc w0 blk off (P ++ (M ++ Q)) w' := by
  intro N
  induction N with
  | zero => intro a m b w P L R Q hN _ _ _ _ h0; omega
  | succ N ih =>
    intro a m b w P L R Q hN hl ha hm hb hL0 hR0 hL hR hc S
    by_cases h1 : L.length = 1
    · obtain ⟨y, rfl⟩ := List.length_eq_one_iff.1 h1
      exact symOneL_F H cap a m b w P y R Q (by simpa using hl) ha (by simpa using hm) hb hR (fun x hx => hc y (by simp) x hx) (by simpa using S)
    · by_cases h2 : R.length = 1
      · obtain ⟨x, rfl⟩ := List.length_eq_one_iff.1 h2
        exact symOneR_F H cap a m b w P L x Q (by simpa using hl) ha hm (by simpa using hb) (by omega) hL (fun y hy => hc y hy x (by simp)) (by simpa using S)
      · exact symMain_F H cap a m b w P L R Q hl ha hm hb (by omega) (by omega) hL hR hc S (fun a' m' b' w' P' L' R' Q' hlt hl' ha' hm' hb' hL' hR' => ih a' m' b' w' P' L' R' Q' (by omega) hl' ha' hm' hb' hL' hR')
set_option maxHeartbeats 16000000 in
set_option maxRecDepth 1000000 in
/-- the whole, by blocks and by merges -/
theorem stable_F {enc : Nat → Value} {cf : Nat → Nat → Int} {lt : Nat → Nat → Prop} {g : Nat} {cb : Array Value} {blk off n : Nat} {d0 : Array Nat} {w0 : World} (H : SortIn enc cf lt g cb blk off n d0 w0) (cap : Nat) (ts : List Nat) (w : World) (hts : ts.length = n) (hok : ts.Pairwise (OkC lt cf)) (S : SL enc w0 blk off ts w) :
    Calls Try.prog 58 #[.slice (some ⟨blk, off, none⟩) n cap, .int .i64 n, .func (.func g) #[] cb] w fun e w' => e = .returned (.tuple #[]) ∧ ∃ M : List Nat, M.Perm ts ∧ M.Pairwise lt ∧ SL enc w0 blk off M w' := by
  have htop := H.top
  have HT := Lib.hid hts
  have HOK := Lib.hid hok
  have HS0 := Lib.hid S
  clear hts hok S
  go_enter Try.func58, Try.ntmps58
  go_wp2
  go_loopw [7, 8] (fun va vb wr => ∃ (a b : Nat) (D T : List Nat), va = .int .i64 a ∧ vb = .int .i64 b ∧ a ≤ n ∧ b ≤ a + 20 ∧ a + 20 ≤ b ∧ Hid (Head lt (OkC lt cf) 20 D T ∧ T.Pairwise (OkC lt cf) ∧ (D ++ T).Perm ts ∧ D.length = a) ∧ Hid (SL enc w0 blk off (D ++ T) wr)) (fun va _ _ => n - (intOf va).toNat)
  case atStart => exact ⟨0, 20, [], ts, rfl, rfl, Nat.zero_le _, Nat.le_refl _, Nat.le_refl _, Lib.hid ⟨head_start _, HOK.out, .refl _, rfl⟩, HS0⟩
  case round =>
    clear HS0
    obtain ⟨a, b, D, Tl, rfl, rfl, han, hb1, hb2, HD, HS⟩ := hrel
    have HLN : Hid (D.length + Tl.length = n) := Lib.hid (by have h := HD.out.2.2.1.length_eq; rw [List.length_append, HT.out] at h; exact h)
    by_cases hlt : b ≤ n
    · have hltz : (b : Int) ≤ (n : Int) := by omega
      obtain ⟨B, T', hB, hBl⟩ := cut_at Tl (k := 20) (by have := HLN.out; have := HD.out.2.2.2; omega)
      subst hB
      have HBL := Lib.hid hBl
      clear hBl
      have HPO := Lib.hid (pair_ok HD.out.2.1)
      have HC := Lib.hid (insSort_F H cap a b wr D B T' (by have := HLN.out; rw [List.length_append] at this; omega) HD.out.2.2.2.symm (by have := HBL.out; omega) HPO.out.1 HS.out)
      clear HS
      go_wp2_with fail
      refine HC.out.mono ?_
      rintro e w2 ⟨rfl, M, hM, hs, hS⟩
      have HM := Lib.hid (And.intro hM hs)
      have S2 := Lib.hid hS
      clear hM hs hS HC
      go_wp2
      go_roundw
      case rel =>
        obtain ⟨h1, h2, h3, h4⟩ := HD.out
        obtain ⟨p1, p2, p3⟩ := HPO.out
        have hml := HM.out.1.length_eq
        have hbl := HBL.out
        exact ⟨b, b + 20, D ++ M, T', rfl, by first | rfl | go_num, hlt, Nat.le_refl _, Nat.le_refl _, Lib.hid ⟨head_step (by decide) h1 hbl HM.out.1 HM.out.2 p3, p2, by rw [List.append_assoc]; exact ((HM.out.1.append_right T').append_left D).trans h3, by rw [List.length_append]; omega⟩, Lib.hid (by simpa using S2.out)⟩
      case measure => simp [intOf]; omega
    · have hltz : ¬ (b : Int) ≤ (n : Int) := by omega
      have HC := Lib.hid (fun (W : World) (hS : SL enc w0 blk off (D ++ (Tl ++ [])) W) => insSort_F H cap a n W D Tl [] (by have := HLN.out; simp; omega) HD.out.2.2.2.symm (by have := HLN.out; have := HD.out.2.2.2; omega) HD.out.2.1 hS)
      go_wp2_with fail
      refine (HC.out _ (by have h := HS.out; simpa using h)).mono ?_
      rintro e w2 ⟨rfl, M, hM, hs, hS⟩
      have HBLK : Hid (∃ bl, Runs lt (OkC lt cf) 20 bl ∧ bl.flatten.Perm ts ∧ SL enc w0 blk off bl.flatten w2) := Lib.hid (by
        obtain ⟨h1, h2, h3, h4⟩ := HD.out
        obtain ⟨bl, q1, q2⟩ := head_end h1 (by have := HLN.out; omega) hM hs
        refine ⟨bl, q1, ?_, by rw [q2]; simpa using hS⟩
        rw [q2]
        exact (hM.append_left D).trans h3)
      clear hM hs hS HC HS HD HLN
      go_wp2
      go_loopw [6] (fun vb wr => ∃ (bs : Nat) (bl : List (List Nat)), vb = .int .i64 bs ∧ 0 < bs ∧ bs ≤ 2199023255552 ∧ Hid (Runs lt (OkC lt cf) bs bl ∧ bl.flatten.Perm ts) ∧ Hid (SL enc w0 blk off bl.flatten wr)) (fun vb _ => n - (intOf vb).toNat)
      case atStart =>
        obtain ⟨bl, q1, q2, q3⟩ := HBLK.out
        exact ⟨20, bl, rfl, by decide, by decide, Lib.hid ⟨q1, q2⟩, Lib.hid q3⟩
      case round =>
        clear HBLK
        obtain ⟨bs, bl, rfl, hbs0, hbst, HR, HS⟩ := hrel
        by_cases hbn : bs < n
        · have hbz : (bs : Int) < (n : Int) := by omega
          go_wp2
          go_loopw [7, 8] (fun va vb wr => ∃ (a b : Nat) (D : List Nat) (rs : List (List Nat)), va = .int .i64 a ∧ vb = .int .i64 b ∧ a ≤ n ∧ b ≤ a + 2 * bs ∧ a + 2 * bs ≤ b ∧ Hid (Head lt (OkC lt cf) (2 * bs) D rs.flatten ∧ Runs lt (OkC lt cf) bs rs ∧ (D ++ rs.flatten).Perm ts ∧ D.length = a) ∧ Hid (SL enc w0 blk off (D ++ rs.flatten) wr)) (fun va _ _ => n - (intOf va).toNat)
          case atStart => exact ⟨0, 2 * bs, [], bl, rfl, by first | rfl | go_num, Nat.zero_le _, by omega, by omega, Lib.hid ⟨head_start _, HR.out.1, HR.out.2, rfl⟩, HS⟩
          case round =>
            clear HS HR
            obtain ⟨a2, b2, D2, rs, rfl, rfl, han2, hc1, hc2, HD, HS⟩ := hrel
            have HLN : Hid (D2.length + rs.flatten.length = n) := Lib.hid (by have h := HD.out.2.2.1.length_eq; rw [List.length_append, HT.out] at h; exact h)
            by_cases hlt2 : b2 ≤ n
            · have hltz2 : (b2 : Int) ≤ (n : Int) := by omega
              obtain ⟨B1, B2, r', hr, hB1, hB2, hs1, hs2, hcr, hcr2, hrr⟩ := runs_two hbs0 HD.out.2.1 (by have := HLN.out; have := HD.out.2.2.2; omega)
              subst hr
              obtain ⟨m2, zm2, hm2⟩ : ∃ m2 : Nat, (a2 : Int) + (bs : Int) = (m2 : Int) ∧ m2 ≤ a2 + bs ∧ a2 + bs ≤ m2 := ⟨a2 + bs, by omega, by omega, by omega⟩
              have HB := Lib.hid (And.intro hB1 (And.intro hB2 (And.intro hs1 (And.intro hs2 (And.intro hcr (And.intro hcr2 hrr))))))
              clear hB1 hB2 hs1 hs2 hcr hcr2 hrr
              have HC := Lib.hid (fun (W : World) (hS : SL enc w0 blk off (D2 ++ (B1 ++ (B2 ++ r'.flatten))) W) => symMerge_F H cap (B1.length + B2.length) a2 m2 b2 W D2 B1 B2 r'.flatten (Nat.le_refl _) (by have := HLN.out; rw [List.flatten_cons, List.flatten_cons, List.length_append, List.length_append] at this; omega) HD.out.2.2.2.symm (by have := HB.out.1; omega) (by have := HB.out.2.1; omega) (by have := HB.out.1; omega) (by have := HB.out.2.1; omega) HB.out.2.2.1 HB.out.2.2.2.1 HB.out.2.2.2.2.1 hS)
              go_wp2_with fail
              refine (HC.out _ (by have h := HS.out; simpa using h)).mono ?_
              rintro e w3 ⟨rfl, M2, hM, hS⟩
              have HM := Lib.hid hM
              have S3 := Lib.hid hS
              clear hM hS HC HS
              go_wp2
              go_roundw
              case rel =>
                obtain ⟨h1, h2, h3, h4⟩ := HD.out
                obtain ⟨e1, e2, e3, e4, e5, e6, e7⟩ := HB.out
                have hml := HM.out.1.length_eq
                rw [List.length_append] at hml
                rw [List.flatten_cons, List.flatten_cons] at h1 h3
                rw [← List.append_assoc B1] at h1 h3
                exact ⟨b2, b2 + 2 * bs, D2 ++ M2, r', rfl, by first | rfl | go_num, hlt2, Nat.le_refl _, Nat.le_refl _, Lib.hid ⟨head_step (by omega) h1 (by rw [List.length_append]; omega) HM.out.1 HM.out.2 e6, e7, by rw [List.append_assoc]; exact ((HM.out.1.append_right _).append_left D2).trans h3, by rw [List.length_append]; omega⟩, Lib.hid (by simpa using S3.out)⟩
              case measure => simp [intOf]; omega
            · have hltz2 : ¬ (b2 : Int) ≤ (n : Int) := by omega
              obtain ⟨m2, zm2, hm2⟩ : ∃ m2 : Nat, (a2 : Int) + (bs : Int) = (m2 : Int) ∧ m2 ≤ a2 + bs ∧ a2 + bs ≤ m2 := ⟨a2 + bs, by omega, by omega, by omega⟩
              by_cases hmn : m2 < n
              · have hmz : (m2 : Int) < (n : Int) := by omega
                obtain ⟨B1, B2, hr, hB1, hB2, hB3, hs1, hs2, hcr⟩ := runs_rest hbs0 HD.out.2.1 (by have := HLN.out; have := HD.out.2.2.2; omega) (by have := HLN.out; have := HD.out.2.2.2; omega)
                subst hr
                have HB := Lib.hid (And.intro hB1 (And.intro hB2 (And.intro hs1 (And.intro hs2 hcr))))
                have HB3 := Lib.hid hB3
                clear hB1 hB2 hB3 hs1 hs2 hcr
                have HC := Lib.hid (fun (W : World) (hS : SL enc w0 blk off (D2 ++ (B1 ++ (B2 ++ []))) W) => symMerge_F H cap (B1.length + B2.length) a2 m2 n W D2 B1 B2 [] (Nat.le_refl _) (by have := HLN.out; simp at this ⊢; omega) HD.out.2.2.2.symm (by have := HB.out.1; omega) (by have := HLN.out; have := HD.out.2.2.2; have := HB.out.1; simp at *; omega) (by have := HB.out.1; omega) HB.out.2.1 HB.out.2.2.1 HB.out.2.2.2.1 HB.out.2.2.2.2 hS)
                go_wp2_with fail
                refine (HC.out _ (by have h := HS.out; simpa using h)).mono ?_
                rintro e w3 ⟨rfl, M2, hM, hS⟩
                have HBLK : Hid (∃ bl, Runs lt (OkC lt cf) (2 * bs) bl ∧ bl.flatten.Perm ts ∧ SL enc w0 blk off bl.flatten w3) := Lib.hid (by
                  obtain ⟨h1, h2, h3, h4⟩ := HD.out
                  have e1 := HB.out.1
                  have e2 := HB3.out
                  have hM' : M2.Perm [B1, B2].flatten := by simpa using hM.1
                  obtain ⟨bl, q1, q2⟩ := head_end h1 (by simp; omega) hM' hM.2
                  refine ⟨bl, q1, ?_, by rw [q2]; simpa using hS⟩
                  rw [q2]
                  exact (hM'.append_left D2).trans h3)
                clear hM hS HC HS HD HLN HB
                go_wp2
                go_roundw
                case rel =>
                  obtain ⟨bl2, q1, q2, q3⟩ := HBLK.out
                  exact ⟨2 * bs, bl2, by first | rfl | go_num | (congr 1; omega), by omega, by omega, Lib.hid ⟨q1, q2⟩, Lib.hid q3⟩
                case measure => simp [intOf]; omega
              · have hmz : ¬ (m2 : Int) < (n : Int) := by omega
                have HBLK : Hid (∃ bl, Runs lt (OkC lt cf) (2 * bs) bl ∧ bl.flatten.Perm ts ∧ SL enc w0 blk off bl.flatten wr) := Lib.hid (by
                  obtain ⟨h1, h2, h3, h4⟩ := HD.out
                  have hfl : rs.flatten.length ≤ bs := by have := HLN.out; omega
                  obtain ⟨bl, q1, q2⟩ := head_end h1 (by omega) (.refl _) (runs_full hbs0 h2 hfl)
                  exact ⟨bl, q1, by rw [q2]; exact h3, by rw [q2]; exact HS.out⟩)
                clear HS HD HLN
                go_wp2
                go_roundw
                case rel =>
                  obtain ⟨bl2, q1, q2, q3⟩ := HBLK.out
                  exact ⟨2 * bs, bl2, by first | rfl | go_num | (congr 1; omega), by omega, by omega, Lib.hid ⟨q1, q2⟩, Lib.hid q3⟩
                case measure => simp [intOf]; omega
        · have hbz : ¬ (bs : Int) < (n : Int) := by omega
          go_wp2
          go_end0
          exact ⟨rfl, bl.flatten, HR.out.2, runs_full hbs0 HR.out.1 (by rw [HR.out.2.length_eq, HT.out]; omega), HS.out⟩
set_option maxHeartbeats 1000000 in
set_option maxRecDepth 100000 in
theorem sortStable_F {enc : Nat → Value} {cf : Nat → Nat → Int} {lt : Nat → Nat → Prop} {g : Nat} {cb : Array Value} {blk off n : Nat} {d0 : Array Nat} {w0 : World} (H : SortIn enc cf lt g cb blk off n d0 w0) (cap : Nat) (ts : List Nat) (w : World) (hts : ts.length = n) (hok : ts.Pairwise (OkC lt cf)) (S : SL enc w0 blk off ts w) :
    Calls Try.prog 43 #[.slice (some ⟨blk, off, none⟩) n cap, .func (.func g) #[] cb] w fun e w' => e = .returned (.tuple #[]) ∧ ∃ M : List Nat, M.Perm ts ∧ M.Pairwise lt ∧ SL enc w0 blk off M w' := by
  have HC := Lib.hid (stable_F H cap ts w hts hok S)
  clear hts hok S
  go_enter Try.func43, Try.ntmps43
  go_wp2_with fail
  refine HC.out.mono ?_
  rintro e w' ⟨rfl, M, h1, h2, h3⟩
  have HM := Lib.hid (And.intro h1 (And.intro h2 h3))
  clear h1 h2 h3
  go_wp2
  go_end0
  exact ⟨rfl, M, HM.out⟩
end Go.Proofs.Ytbojlgbkkdnegaa
