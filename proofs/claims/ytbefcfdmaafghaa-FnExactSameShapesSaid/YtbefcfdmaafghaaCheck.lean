/- The check number of a text, both ways. -/
import Derived.Test.YtbefcfdmaafghaaUnpackImpl
namespace Go.Proofs.Ytbefcfdmaafghaa
open Go.RowKit
def chkStep (z x : Nat) : Nat := (857 * z + x + 149) % 65003
def chk (l : List Nat) : Nat := l.foldl chkStep 0
theorem chk_snoc (l : List Nat) (x : Nat) : chk (l ++ [x]) = chkStep (chk l) x := by simp [chk]
theorem chk_lt (l : List Nat) : chk l < 65003 := by
  rcases List.eq_nil_or_concat l with rfl | ⟨r, x, rfl⟩
  · simp [chk]
  · rw [List.concat_eq_append, chk_snoc]
    exact Nat.mod_lt _ (by omega)
theorem bytesN_take (s : ByteArray) (k : Nat) (h : k < s.size) : (bytesN s).take (k + 1) = (bytesN s).take k ++ [s[k].toNat] := by
  rw [List.take_succ_eq_append_getElem (by rw [bytesN_len]; exact h)]
  simp only [bytesN, List.getElem_map]
  rfl
set_option maxHeartbeats 1000000 in
theorem l01Check_any (s : ByteArray) (w : World) (hs : s.size ≤ 1048576) :
    Calls Try.prog 131 #[.int .i64 0, .string s] w fun e w' => e = .returned (.int .i64 (chk (bytesN s))) ∧ w = w' := by
  go_enter Try.func131, Try.ntmps131
  go_wp2
  go_loop [0, 5] (fun z i => ∃ k : Nat, k ≤ s.size ∧ i = .int .i64 k ∧ z = .int .i64 (chk ((bytesN s).take k))) (fun _ i => s.size - (intOf i).toNat)
  case atStart => exact ⟨0, Nat.zero_le _, rfl, rfl⟩
  case round =>
    obtain ⟨k, hk, rfl, rfl⟩ := hrel
    have hz := chk_lt ((bytesN s).take k)
    by_cases hlt : k < s.size
    · have HS : Hid (chk ((bytesN s).take (k + 1)) = (857 * chk ((bytesN s).take k) + s[k].toNat + 149) % 65003) := Lib.hid (by rw [bytesN_take s k hlt, chk_snoc]; rfl)
      obtain ⟨c, hc⟩ : ∃ c, c = chk ((bytesN s).take k) := ⟨_, rfl⟩
      rw [← hc] at hz HS ⊢
      have hx1 : s[k].toNat ≤ 255 := by have := s[k].toNat_lt; omega
      clear hc
      go_wp2
      go_round
      case rel => exact ⟨k + 1, hlt, by go_num, by rw [HS.out]; first | rfl | (congr 1; omega)⟩
      case measure => simp [intOf]; omega
    · have hke : k = s.size := by omega
      subst hke
      have HT := Lib.hid (List.take_of_length_le (show (bytesN s).length ≤ s.size by rw [bytesN_len]; omega))
      go_wp2
      go_ret
      exact ⟨by rw [HT.out]; rfl, rfl⟩
set_option maxHeartbeats 1000000 in
theorem checkOf_any (s : ByteArray) (w : World) (hs : s.size ≤ 1048576) :
    Calls Try.prog 133 #[.int .i64 0, .string s] w fun e w' => e = .returned (.tuple #[.int .i64 (chk (bytesN s)), .bool true]) ∧ w = w' := by
  go_enter Try.func133, Try.ntmps133
  go_wp2_with fail
  refine (within_any 0 0 65002 w).mono ?_
  rintro e w1 ⟨rfl, rfl⟩
  rw [inB_t (by omega) (by omega)]
  go_wp2
  go_loop [0, 6, 12] (fun z _ i => ∃ k : Nat, k ≤ s.size ∧ i = .int .i64 k ∧ z = .int .i64 (chk ((bytesN s).take k))) (fun _ _ i => s.size - (intOf i).toNat)
  case atStart => exact ⟨0, Nat.zero_le _, rfl, rfl⟩
  case round =>
    obtain ⟨k, hk, rfl, rfl⟩ := hrel
    have hz := chk_lt ((bytesN s).take k)
    by_cases hlt : k < s.size
    · have HS : Hid (chk ((bytesN s).take (k + 1)) = (857 * chk ((bytesN s).take k) + s[k].toNat + 149) % 65003) := Lib.hid (by rw [bytesN_take s k hlt, chk_snoc]; rfl)
      obtain ⟨c, hc⟩ : ∃ c, c = chk ((bytesN s).take k) := ⟨_, rfl⟩
      rw [← hc] at hz HS ⊢
      have hx1 : s[k].toNat ≤ 255 := by have := s[k].toNat_lt; omega
      clear hc
      go_wp2
      go_round
      case rel => exact ⟨k + 1, hlt, by go_num, by rw [HS.out]; first | rfl | (congr 1; omega)⟩
      case measure => simp [intOf]; omega
    · have hke : k = s.size := by omega
      subst hke
      have HT := Lib.hid (List.take_of_length_le (show (bytesN s).length ≤ s.size by rw [bytesN_len]; omega))
      go_wp2
      go_ret2
      exact ⟨by rw [HT.out]; rfl, rfl⟩
end Go.Proofs.Ytbefcfdmaafghaa
