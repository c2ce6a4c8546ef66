/- Neighbours exchanged. -/
import Derived.Test.YtbojlgbkkdnegaaSortAF
namespace Go.Proofs.Ytbojlgbkkdnegaa
open Go.Shelf Go.RowKit Go.Lib Go.Sort
set_option maxHeartbeats 16000000 in
set_option maxRecDepth 1000000 in
/-- two neighbours exchanged -/
theorem rotate_F {enc : Nat → Value} {cf : Nat → Nat → Int} {lt : Nat → Nat → Prop} {g : Nat} {cb : Array Value} {blk off n : Nat} {d0 : Array Nat} {w0 : World} (H : SortIn enc cf lt g cb blk off n d0 w0) (cap a m b : Nat) (w : World) (P X Y Q : List Nat) (hl : P.length + X.length + Y.length + Q.length = n) (ha : a = P.length) (hm : m = a + X.length) (hb : b = m + Y.length) (hX : 0 < X.length) (hY : 0 < Y.length) (S : SL enc w0 blk off (P ++ (X ++ (Y ++ Q))) w) :
    Calls Try.prog 71 #[.slice (some ⟨blk, off, none⟩) n cap, .int .i64 a, .int .i64 m, .int .i64 b, .func (.func g) #[] cb] w fun e w' => e = .returned (.tuple #[]) ∧ SL enc w0 blk off (P ++ (Y ++ (X ++ Q))) w' := by
  have mixed := mixedT
  have hcl0 := H.row.hO.cells
  simp only [Value.cells] at hcl0
  have hst := H.row.hO.store Try.prog
  have htop := H.top
  have eg := H.eg
  have HS0 := Lib.hid S
  have HA := Lib.hid (show P.length + X.length + Y.length + Q.length = n ∧ a = P.length ∧ m = a + X.length ∧ b = m + Y.length from ⟨hl, ha, hm, hb⟩)
  have ham : a ≤ m := by omega
  have hmb : m ≤ b := by omega
  have hbn : b ≤ n := by omega
  have HX := Lib.hid (And.intro hX hY)
  clear S hl ha hm hb hX hY
  go_enter Try.func71, Try.ntmps71
  go_wp2
  go_loopw [10, 11] (fun vx vy wr => ∃ (i j : Nat) (P' U V Q' : List Nat), vx = .int .i64 i ∧ vy = .int .i64 j ∧ 0 < i ∧ 0 < j ∧ i ≤ m ∧ m + j ≤ n ∧ Hid (P'.length + i = m ∧ U.length = i ∧ V.length = j ∧ P'.length + U.length + V.length + Q'.length = n) ∧ Hid (P' ++ (V ++ (U ++ Q')) = P ++ (Y ++ (X ++ Q))) ∧ Hid (SL enc w0 blk off (P' ++ (U ++ (V ++ Q'))) wr)) (fun vx vy _ => (intOf vx).toNat + (intOf vy).toNat)
  case atStart =>
    obtain ⟨x1, x2, x3, x4⟩ := HA.out
    obtain ⟨x5, x6⟩ := HX.out
    exact ⟨X.length, Y.length, P, X, Y, Q, by congr 1; omega, by congr 1; omega, x5, x6, by omega, by omega, Lib.hid ⟨by omega, rfl, rfl, x1⟩, Lib.hid rfl, HS0⟩
  case round =>
    clear HS0 HX
    obtain ⟨i, j, P', U, V, Q', rfl, rfl, hi0, hj0, him, hjm, HL, HT, HS⟩ := hrel
    obtain ⟨p, zp⟩ : ∃ p : Nat, (m : Int) - (i : Int) = (p : Int) := ⟨m - i, by omega⟩
    have HP : Hid (p = P'.length) := Lib.hid (by obtain ⟨x1, x2, x3, x4⟩ := HL.out; omega)
    by_cases hij : i = j
    · subst hij
      have HC := Lib.hid (fun (W : World) (hS : SL enc w0 blk off (P' ++ (U ++ ([] ++ (V ++ Q')))) W) => swapRange_F H cap p m i W P' U [] V Q' (by obtain ⟨x1, x2, x3, x4⟩ := HL.out; simp; omega) HP.out (by obtain ⟨x1, x2, x3, x4⟩ := HL.out; omega) (by obtain ⟨x1, x2, x3, x4⟩ := HL.out; omega) (by obtain ⟨x1, x2, x3, x4⟩ := HL.out; have := HP.out; simp; omega) hS)
      go_wp2_with fail
      refine (HC.out _ HS.out).mono ?_
      rintro e w2 ⟨rfl, hS⟩
      have S2 := Lib.hid hS
      clear hS
      go_wp2
      go_end0
      exact ⟨rfl, by rw [← HT.out]; exact S2.out⟩
    · have hne : ¬ ((i : Int) = (j : Int)) := by omega
      have hne2 : ((i : Int) == (j : Int)) = false := by simp; omega
      by_cases hgt : j < i
      · have hgz : (j : Int) < (i : Int) := by omega
        obtain ⟨U1, U2, hU, hU1⟩ := cut_at U (k := j) (by obtain ⟨x1, x2, x3, x4⟩ := HL.out; omega)
        subst hU
        have HU := Lib.hid hU1
        clear hU1
        have HC := Lib.hid (fun (W : World) (hS : SL enc w0 blk off (P' ++ (U1 ++ (U2 ++ (V ++ Q')))) W) => swapRange_F H cap p m j W P' U1 U2 V Q' (by obtain ⟨x1, x2, x3, x4⟩ := HL.out; rw [List.length_append] at x4; omega) HP.out HU.out (by obtain ⟨x1, x2, x3, x4⟩ := HL.out; omega) (by obtain ⟨x1, x2, x3, x4⟩ := HL.out; have := HP.out; have := HU.out; rw [List.length_append] at x2; omega) hS)
        have HS1 : Hid (SL enc w0 blk off (P' ++ (U1 ++ (U2 ++ (V ++ Q')))) wr) := Lib.hid (by have h := HS.out; rwa [List.append_assoc] at h)
        clear HS
        go_wp2_with fail
        refine (HC.out _ HS1.out).mono ?_
        rintro e w2 ⟨rfl, hS⟩
        have S2 := Lib.hid hS
        clear hS
        go_wp2
        go_roundw
        case rel =>
          obtain ⟨x1, x2, x3, x4⟩ := HL.out
          have x5 := HU.out
          rw [List.length_append] at x2 x4
          exact ⟨i - j, j, P' ++ V, U2, U1, Q', by congr 1; omega, rfl, by omega, hj0, by omega, hjm, Lib.hid ⟨by rw [List.length_append]; omega, by omega, x5, by rw [List.length_append]; omega⟩, Lib.hid (by rw [← HT.out]; simp), Lib.hid (by simpa using S2.out)⟩
        case measure => simp [intOf]; omega
      · have hgz : ¬ (j : Int) < (i : Int) := by omega
        obtain ⟨q, zq⟩ : ∃ q : Nat, (m : Int) + (j : Int) - (i : Int) = (q : Int) := ⟨m + j - i, by omega⟩
        have HQ : Hid (q + i = m + j) := Lib.hid (by omega)
        obtain ⟨V1, V2, hV, hV1⟩ := cut_at V (k := j - i) (by obtain ⟨x1, x2, x3, x4⟩ := HL.out; omega)
        subst hV
        have HV := Lib.hid hV1
        clear hV1
        have HC := Lib.hid (fun (W : World) (hS : SL enc w0 blk off (P' ++ (U ++ (V1 ++ (V2 ++ Q')))) W) => swapRange_F H cap p q i W P' U V1 V2 Q' (by obtain ⟨x1, x2, x3, x4⟩ := HL.out; rw [List.length_append] at x4; omega) HP.out (by obtain ⟨x1, x2, x3, x4⟩ := HL.out; omega) (by obtain ⟨x1, x2, x3, x4⟩ := HL.out; have := HV.out; rw [List.length_append] at x3; omega) (by obtain ⟨x1, x2, x3, x4⟩ := HL.out; have := HP.out; have := HV.out; have := HQ.out; rw [List.length_append] at x3; omega) hS)
        have HS1 : Hid (SL enc w0 blk off (P' ++ (U ++ (V1 ++ (V2 ++ Q')))) wr) := Lib.hid (by have h := HS.out; rwa [List.append_assoc] at h)
        clear HS
        go_wp2_with fail
        refine (HC.out _ HS1.out).mono ?_
        rintro e w2 ⟨rfl, hS⟩
        have S2 := Lib.hid hS
        clear hS
        go_wp2
        go_roundw
        case rel =>
          obtain ⟨x1, x2, x3, x4⟩ := HL.out
          have x5 := HV.out
          rw [List.length_append] at x3 x4
          exact ⟨i, j - i, P', V2, V1, U ++ Q', rfl, by congr 1; omega, hi0, by omega, him, by omega, Lib.hid ⟨x1, by omega, x5, by rw [List.length_append]; omega⟩, Lib.hid (by rw [← HT.out]; simp), Lib.hid S2.out⟩
        case measure => simp [intOf]; omega
end Go.Proofs.Ytbojlgbkkdnegaa
