/- Lists of masses, both ways to ask for them. -/
import Derived.Test.YtcpimcjmckljfaaWithin
import Derived.Test.YtcpimcjmckljfaaBase
namespace Go.Proofs.Ytcpimcjmckljfaa
open Go.RowKit
def posB (xs : List Int) : Bool := xs.any fun x => decide (0 < x)
/-- a list are masses -/
def massB (xs : List Int) : Bool := decide (1 ≤ xs.length ∧ xs.length ≤ 256) && (rngI 0 1000000 xs && posB xs)
theorem posB_snoc {xs : List Int} {k : Nat} (h : k < xs.length) : posB (xs.take (k + 1)) = (posB (xs.take k) || decide (0 < xs[k])) := by
  unfold posB
  rw [List.take_succ_eq_append_getElem h, List.any_append]
  simp
theorem rngI_bad {lo hi : Int} {xs : List Int} {k : Nat} (h : k < xs.length) (hb : inB xs[k] lo hi = false) : rngI lo hi xs = false := by
  unfold rngI
  rw [any_found h (by rw [hb]; rfl)]
  rfl
theorem rngI_mem {lo hi : Int} {xs : List Int} (h : rngI lo hi xs = true) : ∀ x ∈ xs, lo ≤ x ∧ x ≤ hi := by
  intro x hx
  unfold rngI at h
  have h2 : (xs.any fun x => !inB x lo hi) = false := by simpa using h
  rw [List.any_eq_false] at h2
  have := h2 x hx
  simpa [inB] using this
set_option maxHeartbeats 1000000 in
theorem max_any (A : Option Addr) (n c : Nat) (xs : List Int) (w : World) (hn : xs.length = n) (h0 : 0 < n) (hm : n ≤ 256) (hr : Rd w w.heap.size A (xs.map (Value.int .i64))) :
    Calls Try.prog 90 #[.slice A n c] w fun e w' => (∃ z, e = .returned (.int .i64 z) ∧ decide (0 < z) = posB xs) ∧ w = w' := by
  have Hn := Lib.hid hn; clear hn
  have Hr := Lib.hid hr; clear hr
  obtain ⟨ad, rfl, _, hc0⟩ := Hr.out.at_ (k := 0) (by rw [List.length_map, Hn.out]; exact h0)
  rw [List.getElem_map, show ad.add 0 = ad from rfl] at hc0
  have h0' : 0 < xs.length := by rw [Hn.out]; exact h0
  have HS0 := Lib.hid (posB_snoc h0')
  obtain ⟨x0, hx0⟩ : ∃ x0, x0 = xs[0] := ⟨_, rfl⟩
  rw [← hx0] at hc0 HS0
  clear hx0
  go_enter Try.func90, Try.ntmps90
  go_wp2
  go_loop [3, 4] (fun v i => ∃ (k : Nat) (z : Int), 1 ≤ k ∧ k ≤ n ∧ i = .int .i64 k ∧ v = .int .i64 z ∧ Hid (decide (0 < z) = posB (xs.take k))) (fun _ i => n - (intOf i).toNat)
  case atStart => exact ⟨1, x0, Nat.le_refl _, h0, rfl, rfl, Lib.hid (by rw [HS0.out]; simp [posB])⟩
  case round =>
    obtain ⟨k, z, hk1, hk, rfl, rfl, HZ⟩ := hrel
    by_cases hlt : k < n
    · have hka : k < xs.length := by rw [Hn.out]; exact hlt
      obtain ⟨ad', had', _, hck⟩ := Hr.out.at_ (k := k) (by rw [List.length_map]; exact hka)
      obtain rfl : ad' = ad := (Option.some.inj had').symm
      rw [List.getElem_map] at hck
      have HS := Lib.hid (posB_snoc hka)
      obtain ⟨x, hx⟩ : ∃ x, x = xs[k] := ⟨_, rfl⟩
      rw [← hx] at hck HS
      clear hx had'
      go_wp2
      go_round
      case rel => exact ⟨k + 1, (if z < x then x else z), by omega, by omega, by go_num, rfl, Lib.hid (by rw [HS.out, ← HZ.out]; split <;> simp <;> omega)⟩
      case measure => simp [intOf]; omega
    · obtain rfl : n = k := by omega
      have HT : Hid (decide (0 < z) = posB xs) := Lib.hid (by have h := HZ.out; rwa [List.take_of_length_le (by rw [Hn.out]; omega)] at h)
      go_wp2
      go_ret
      exact ⟨⟨z, rfl, HT.out⟩, rfl⟩
set_option maxHeartbeats 1000000 in
theorem areMasses_any (A : Option Addr) (n c : Nat) (xs : List Int) (w : World) (hn : xs.length = n) (hm : n ≤ 1048576) (hr : Rd w w.heap.size A (xs.map (Value.int .i64))) :
    Calls Try.prog 50 #[.slice A n c] w fun e w' => e = .returned (.bool (massB xs)) ∧ Below w.heap.size w w' := by
  by_cases h1 : 1 ≤ n
  · by_cases h2 : n ≤ 256
    · have hl : massB xs = (rngI 0 1000000 xs && posB xs) := by unfold massB; rw [show decide (1 ≤ xs.length ∧ xs.length ≤ 256) = true by rw [decide_eq_true_eq]; omega]; rfl
      have c89 := areWithin_any A n c xs 0 1000000 w hn (by omega) hr
      have Hr := Lib.hid hr
      have Hn := Lib.hid hn
      rw [hl]
      cases hg : rngI 0 1000000 xs
      · rw [hg] at c89
        have HC := Lib.hid c89
        clear c89 hr hn hl hg
        go_enter Try.func50, Try.ntmps50
        go_wp2_with fail
        refine HC.out.mono ?_
        rintro e w1 ⟨rfl, hb⟩
        have HB := Lib.hid hb; clear hb
        go_wp2
        go_ret
        exact ⟨rfl, HB.out⟩
      · rw [hg] at c89
        have HC := Lib.hid c89
        clear c89 hr hn hl hg
        go_enter Try.func50, Try.ntmps50
        go_wp2_with fail
        refine HC.out.mono ?_
        rintro e w1 ⟨rfl, hb⟩
        have HB := Lib.hid hb
        have HC2 := Lib.hid (max_any A n c xs w1 Hn.out (by omega) h2 (Hr.out.next hb))
        clear hb
        go_wp2_with fail
        refine HC2.out.mono ?_
        rintro e w2 ⟨⟨z, rfl, hz⟩, rfl⟩
        have HZ := Lib.hid hz
        clear hz
        go_wp2
        go_ret
        exact ⟨ret_bool (by rw [← HZ.out]; rfl), HB.out⟩
    · have hl : massB xs = false := by unfold massB; rw [show decide (1 ≤ xs.length ∧ xs.length ≤ 256) = false by rw [decide_eq_false_iff_not]; omega]; rfl
      rw [hl]
      clear hl hr hn
      go_enter Try.func50, Try.ntmps50
      go_wp2
      go_ret
      exact ⟨rfl, Below.refl _ _⟩
  · have hl : massB xs = false := by unfold massB; rw [show decide (1 ≤ xs.length ∧ xs.length ≤ 256) = false by rw [decide_eq_false_iff_not]; omega]; rfl
    rw [hl]
    clear hl hr hn
    go_enter Try.func50, Try.ntmps50
    go_wp2
    go_ret
    exact ⟨rfl, Below.refl _ _⟩
/-- the sum of masses, if they are such -/
def massS (xs : List Int) : Int := if decide (1 ≤ xs.length ∧ xs.length ≤ 256) && rngI 0 1000000 xs then xs.sum else 0
theorem sum_snoc {xs : List Int} {k : Nat} (h : k < xs.length) : (xs.take (k + 1)).sum = (xs.take k).sum + xs[k] := by
  rw [List.take_succ_eq_append_getElem h, List.sum_append]; simp
theorem ret_ib' {a a' : Int} {b b' : Bool} (h : a = a') (h' : b = b') : Ending.returned (.tuple #[.int .i64 a, .bool b]) = .returned (.tuple #[.int .i64 a', .bool b']) := by rw [h, h']
set_option maxHeartbeats 1000000 in
theorem l06Sum_any (A : Option Addr) (n c : Nat) (xs : List Int) (w : World) (hn : xs.length = n) (hm : n ≤ 1048576) (hr : Rd w w.heap.size A (xs.map (Value.int .i64))) :
    Calls Try.prog 47 #[.slice A n c] w fun e w' => e = .returned (.tuple #[.int .i64 (massS xs), .bool (massB xs)]) ∧ w = w' := by
  by_cases hl : 1 ≤ n ∧ n ≤ 256
  · obtain ⟨h1, h2⟩ := hl
    have hd : decide (1 ≤ xs.length ∧ xs.length ≤ 256) = true := by rw [decide_eq_true_eq]; omega
    have HS1 : Hid (massS xs = if rngI 0 1000000 xs = true then xs.sum else 0) := Lib.hid (by unfold massS; rw [hd, Bool.true_and])
    have HB1 : Hid (massB xs = (rngI 0 1000000 xs && posB xs)) := Lib.hid (by unfold massB; rw [hd, Bool.true_and])
    have Hn := Lib.hid hn
    have Hr := Lib.hid hr
    clear hd hn hr
    go_enter Try.func47, Try.ntmps47
    go_wp2
    go_loop [4, 5] (fun v i => ∃ (k : Nat) (z : Int), k ≤ n ∧ i = .int .i64 k ∧ v = .int .i64 z ∧ Hid (z = (xs.take k).sum) ∧ 0 ≤ z ∧ z ≤ 1000000 * k ∧ Hid ((xs.take k).any (fun x => !inB x 0 1000000) = false) ∧ Hid (decide (0 < z) = posB (xs.take k))) (fun _ i => n - (intOf i).toNat)
    case atStart => exact ⟨0, 0, Nat.zero_le _, rfl, rfl, Lib.hid rfl, by omega, by omega, Lib.hid rfl, Lib.hid rfl⟩
    case round =>
      obtain ⟨k, z, hk, rfl, rfl, HZ, z0, z1, HA, HP⟩ := hrel
      by_cases hlt : k < n
      · have hka : k < xs.length := by rw [Hn.out]; exact hlt
        obtain ⟨ad, rfl, _, hck⟩ := Hr.out.at_ (k := k) (by rw [List.length_map]; exact hka)
        rw [List.getElem_map] at hck
        have HS := Lib.hid (posB_snoc hka)
        have HU := Lib.hid (sum_snoc hka)
        have hstep := any_step (p := fun x => !inB x 0 1000000) hka HA.out
        have hbad := rngI_bad (lo := 0) (hi := 1000000) hka
        obtain ⟨x, hx⟩ : ∃ x, x = xs[k] := ⟨_, rfl⟩
        rw [← hx] at hck HS HU hstep hbad
        have c83 := fun W => l00In_any x 0 1000000 W
        clear hx
        cases hi : inB x 0 1000000
        · have hb := hbad hi
          have HS2 : Hid (massS xs = 0 ∧ massB xs = false) := Lib.hid (by rw [HS1.out, HB1.out, hb]; exact ⟨rfl, rfl⟩)
          rw [hi] at c83
          have HC := Lib.hid c83
          clear c83 hstep hbad hb hi
          go_wp2_with fail
          refine (HC.out _).mono ?_
          rintro e w' ⟨rfl, rfl⟩
          go_wp2
          go_ret2
          exact ⟨ret_ib' HS2.out.1.symm HS2.out.2.symm, rfl⟩
        · have HA2 := Lib.hid (hstep (by rw [hi]; rfl))
          obtain ⟨x0, x1⟩ : 0 ≤ x ∧ x ≤ 1000000 := by simpa [inB] using hi
          rw [hi] at c83
          have HC := Lib.hid c83
          clear c83 hstep hbad hi
          go_wp2_with fail
          refine (HC.out _).mono ?_
          rintro e w' ⟨rfl, rfl⟩
          go_wp2
          go_round
          case rel => exact ⟨k + 1, z + x, by omega, by go_num, rfl, Lib.hid (by rw [HU.out, HZ.out]), by omega, by omega, HA2, Lib.hid (by rw [HS.out, ← HP.out, Bool.eq_iff_iff]; simp; omega)⟩
          case measure => simp [intOf]; omega
      · obtain rfl : n = k := by omega
        have hT : xs.take n = xs := List.take_of_length_le (by rw [Hn.out]; omega)
        have hg : rngI 0 1000000 xs = true := by have h := HA.out; rw [hT] at h; unfold rngI; rw [h]; rfl
        have HS2 : Hid (massS xs = z ∧ massB xs = decide (0 < z)) := Lib.hid (by
          have h := HP.out
          have h' := HZ.out
          rw [hT] at h h'
          rw [HS1.out, HB1.out, hg, if_pos rfl]
          exact ⟨h'.symm, by rw [h]; rfl⟩)
        clear hT hg
        go_wp2
        go_ret2
        exact ⟨ret_ib' HS2.out.1.symm (by rw [HS2.out.2]), rfl⟩
  · have HS2 : Hid (massS xs = 0 ∧ massB xs = false) := Lib.hid (by
      unfold massS massB
      rw [show decide (1 ≤ xs.length ∧ xs.length ≤ 256) = false by rw [decide_eq_false_iff_not, hn]; exact hl]
      exact ⟨rfl, rfl⟩)
    clear hn hr
    by_cases h1 : 1 ≤ n
    · have h2 : ¬ n ≤ 256 := fun h => hl ⟨h1, h⟩
      clear hl
      go_enter Try.func47, Try.ntmps47
      go_wp2
      go_ret2
      exact ⟨ret_ib' HS2.out.1.symm HS2.out.2.symm, rfl⟩
    · clear hl
      go_enter Try.func47, Try.ntmps47
      go_wp2
      go_ret2
      exact ⟨ret_ib' HS2.out.1.symm HS2.out.2.symm, rfl⟩
end Go.Proofs.Ytcpimcjmckljfaa
