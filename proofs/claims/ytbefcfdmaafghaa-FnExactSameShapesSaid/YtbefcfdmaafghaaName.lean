/- Names: both ways to ask whether a text is one. -/
import Derived.Test.YtbefcfdmaafghaaSmall
namespace Go.Proofs.Ytbefcfdmaafghaa
open Go.RowKit
def okc (c : UInt8) : Bool := decide (97 ≤ c.toNat ∧ c.toNat ≤ 122)
/-- a text is a name -/
def nameB (s : ByteArray) : Bool := s.data.toList.all okc && decide (1 ≤ s.size ∧ s.size ≤ 8)
theorem take_snocB (s : ByteArray) (k : Nat) (h : k < s.size) : s.data.toList.take (k + 1) = s.data.toList.take k ++ [s[k]] := by
  rw [List.take_succ_eq_append_getElem (by simpa using h)]; rfl
theorem all_snoc (s : ByteArray) (k : Nat) (h : k < s.size) (ha : (s.data.toList.take k).all okc = true) (hc : okc s[k] = true) : (s.data.toList.take (k + 1)).all okc = true := by
  rw [take_snocB s k h, List.all_append, ha]; simp [hc]
theorem name_bad (s : ByteArray) (k : Nat) (h : k < s.size) (hc : okc s[k] = false) : nameB s = false := by
  have hm : s[k] ∈ s.data.toList := by
    have : s.data.toList[k]'(by simpa using h) = s[k] := rfl
    rw [← this]; exact List.getElem_mem _
  have : s.data.toList.all okc = false := by
    rw [← Bool.not_eq_true, List.all_eq_true]
    intro ha
    rw [ha _ hm] at hc
    cases hc
  simp [nameB, this]
theorem name_len (s : ByteArray) (ha : (s.data.toList.take s.size).all okc = true) : nameB s = decide (1 ≤ s.size ∧ s.size ≤ 8) := by
  rw [List.take_of_length_le (by simp)] at ha
  simp [nameB, ha]
set_option maxHeartbeats 1000000 in
theorem isName_any (s : ByteArray) (w : World) (hs : s.size ≤ 9223372036854775807) : Calls Try.prog 90 #[.string s] w fun e w' => e = .returned (.bool (nameB s)) ∧ w = w' := by
  go_enter Try.func90, Try.ntmps90
  go_wp2
  go_loop [6] (fun i => ∃ k : Nat, k ≤ s.size ∧ i = .int .i64 k ∧ Hid ((s.data.toList.take k).all okc = true)) (fun i => s.size - (intOf i).toNat)
  case atStart => exact ⟨0, Nat.zero_le _, rfl, Lib.hid rfl⟩
  case round =>
    obtain ⟨k, hk, rfl, HA⟩ := hrel
    by_cases hlt : k < s.size
    · by_cases hlo : (97 : Int) ≤ (s[k].toNat : Int)
      · by_cases hhi : (s[k].toNat : Int) ≤ 122
        · have HC : Hid (okc s[k] = true) := by show okc s[k] = true; simp [okc]; omega
          go_wp2
          go_round
          case rel => exact ⟨k + 1, by omega, by go_num, all_snoc s k hlt HA.out HC.out⟩
          case measure => simp [intOf]; omega
        · have HX := Lib.hid (name_bad s k hlt (by simp [okc]; omega))
          go_wp2
          go_ret
          exact ⟨ret_bool HX.out.symm, rfl⟩
      · have HX := Lib.hid (name_bad s k hlt (by simp [okc]; omega))
        go_wp2
        go_ret
        exact ⟨ret_bool HX.out.symm, rfl⟩
    · have hke : k = s.size := by omega
      have HX : Hid (nameB s = decide (1 ≤ s.size ∧ s.size ≤ 8)) := name_len s (by rw [← hke]; exact HA.out)
      clear HA hke
      by_cases h1 : 1 ≤ s.size
      · by_cases h8 : s.size ≤ 8
        · have HY : Hid (nameB s = true) := by show nameB s = true; rw [HX.out]; simp; omega
          clear HX
          go_wp2
          go_ret
          exact ⟨ret_bool (by first | (rw [HY.out]; simp; done) | (rw [HY.out]; simp; omega)), rfl⟩
        · have HY : Hid (nameB s = false) := by show nameB s = false; rw [HX.out]; simp; omega
          clear HX
          go_wp2
          go_ret
          exact ⟨ret_bool (by first | (rw [HY.out]; simp; done) | (rw [HY.out]; simp; omega)), rfl⟩
      · have HY : Hid (nameB s = false) := by show nameB s = false; rw [HX.out]; simp; omega
        clear HX
        go_wp2
        go_ret
        exact ⟨ret_bool (by first | (rw [HY.out]; simp; done) | (rw [HY.out]; first | done | (simp; done) | (simp; omega))), rfl⟩
set_option maxHeartbeats 1000000 in
theorem l07Name_any (s : ByteArray) (w : World) (hs : s.size ≤ 9223372036854775807) : Calls Try.prog 122 #[.string s] w fun e w' => e = .returned (.bool (nameB s)) ∧ w = w' := by
  go_enter Try.func122, Try.ntmps122
  go_wp2
  go_loop [3] (fun i => ∃ k : Nat, k ≤ s.size ∧ i = .int .i64 k ∧ Hid ((s.data.toList.take k).all okc = true)) (fun i => s.size - (intOf i).toNat)
  case atStart => exact ⟨0, Nat.zero_le _, rfl, Lib.hid rfl⟩
  case round =>
    obtain ⟨k, hk, rfl, HA⟩ := hrel
    by_cases hlt : k < s.size
    · by_cases hlo : (97 : Int) ≤ (s[k].toNat : Int)
      · by_cases hhi : (s[k].toNat : Int) ≤ 122
        · have HC : Hid (okc s[k] = true) := by show okc s[k] = true; simp [okc]; omega
          go_wp2
          go_round
          case rel => exact ⟨k + 1, by omega, by go_num, all_snoc s k hlt HA.out HC.out⟩
          case measure => simp [intOf]; omega
        · have HX := Lib.hid (name_bad s k hlt (by simp [okc]; omega))
          go_wp2
          go_ret
          exact ⟨ret_bool HX.out.symm, rfl⟩
      · have HX := Lib.hid (name_bad s k hlt (by simp [okc]; omega))
        go_wp2
        go_ret
        exact ⟨ret_bool HX.out.symm, rfl⟩
    · have hke : k = s.size := by omega
      have HX : Hid (nameB s = decide (1 ≤ s.size ∧ s.size ≤ 8)) := name_len s (by rw [← hke]; exact HA.out)
      clear HA hke
      by_cases h1 : 1 ≤ s.size
      · by_cases h8 : s.size ≤ 8
        · have HY : Hid (nameB s = true) := by show nameB s = true; rw [HX.out]; simp; omega
          clear HX
          go_wp2
          go_ret
          exact ⟨ret_bool (by first | (rw [HY.out]; simp; done) | (rw [HY.out]; simp; omega)), rfl⟩
        · have HY : Hid (nameB s = false) := by show nameB s = false; rw [HX.out]; simp; omega
          clear HX
          go_wp2
          go_ret
          exact ⟨ret_bool (by first | (rw [HY.out]; simp; done) | (rw [HY.out]; simp; omega)), rfl⟩
      · have HY : Hid (nameB s = false) := by show nameB s = false; rw [HX.out]; simp; omega
        clear HX
        go_wp2
        go_ret
        exact ⟨ret_bool (by first | (rw [HY.out]; simp; done) | (rw [HY.out]; first | done | (simp; done) | (simp; omega))), rfl⟩
end Go.Proofs.Ytbefcfdmaafghaa
