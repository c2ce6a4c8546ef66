/- Lists of points: the test of points. -/
import Derived.Test.YtikleaiflmoffaaPts
namespace Go.Proofs.Ytikleaiflmoffaa
open Ieee Go.RowKit
set_option maxHeartbeats 1000000 in
theorem indexFunc_C (g : Nat) (lb : Array Value) (eg : ∀ args w, (callFunc g args).run Try.prog w = .ok (.enter g args) w) (p : Int × Int → Bool) (A : Option Addr) (n c : Nat) (xs : List (Int × Int)) (w : World) (hn : xs.length = n) (hm : n ≤ 140737488351232)
    (hr : Rd w w.heap.size A (xs.map cvP)) (hp : ∀ (W : World) (x : Int × Int), x ∈ xs → Below w.heap.size w W → Calls Try.prog g (#[cvP x] ++ lb) W fun e w' => e = .returned (.bool (p x)) ∧ Below W.heap.size W w') :
    Calls Try.prog 44 #[.slice A n c, .func (.func g) #[] lb] w fun e w' => FoundI (xs.any p) e ∧ Below w.heap.size w w' := by
  have Hn := Lib.hid hn; clear hn
  have Hr := Lib.hid hr; clear hr
  have HP := Lib.hid hp; clear hp
  go_enter Try.func44, Try.ntmps44
  go_wp2
  go_loopw [5, 8] (fun _ i wr => ∃ k : Nat, k ≤ n ∧ i = .int .i64 k ∧ Hid ((xs.take k).any p = false) ∧ Below w.heap.size w wr) (fun _ i _ => n - (intOf i).toNat)
  case atStart => exact ⟨0, Nat.zero_le _, rfl, Lib.hid rfl, Below.refl _ _⟩
  case round =>
    obtain ⟨k, hk, rfl, HA, hb⟩ := hrel
    have HB := Lib.hid hb; clear hb
    by_cases hlt : k < n
    · have hka : k < xs.length := by rw [Hn.out]; exact hlt
      obtain ⟨ad, rfl, _, hcell⟩ := (Hr.out.below HB.out).at_ (k := k) (by rw [List.length_map]; exact hka)
      rw [List.getElem_map] at hcell
      have hc := HP.out wr xs[k] (List.getElem_mem hka) HB.out
      obtain ⟨x, hx⟩ : ∃ x, x = xs[k] := ⟨_, rfl⟩
      rw [← hx] at hcell hc
      cases hq : p x
      · have HS := Lib.hid (any_step hka HA.out (by rw [← hx]; exact hq))
        rw [hq] at hc
        have HC := Lib.hid hc
        clear hc hq hx
        go_wp2_with (go_at_fn g; refine HC.out.mono ?_; rintro e w' ⟨rfl, hb⟩)
        have HB2 := Lib.hid (HB.out.trans (hb.mono HB.out.size)); clear hb
        go_wp2
        go_roundw
        case rel => exact ⟨k + 1, by omega, by go_num, HS.out, HB2.out⟩
        case measure => simp [intOf]; omega
      · have HS := Lib.hid (any_found (p := p) hka (by rw [← hx]; exact hq))
        rw [hq] at hc
        have HC := Lib.hid hc
        clear hc hq hx
        go_wp2_with (go_at_fn g; refine HC.out.mono ?_; rintro e w' ⟨rfl, hb⟩)
        have HB2 := Lib.hid (HB.out.trans (hb.mono HB.out.size)); clear hb
        go_wp2
        go_ret
        exact ⟨⟨(k : Int), rfl, by rw [HS.out]; simp⟩, HB2.out⟩
    · have HS := Lib.hid (any_none (p := p) (k := k) (show xs.length ≤ k by rw [Hn.out]; omega) HA.out)
      go_wp2
      go_ret
      exact ⟨⟨-1, rfl, by rw [HS.out]; simp⟩, HB.out⟩
set_option maxHeartbeats 1000000 in
theorem containsFunc_C (g : Nat) (lb : Array Value) (eg : ∀ args w, (callFunc g args).run Try.prog w = .ok (.enter g args) w) (p : Int × Int → Bool) (A : Option Addr) (n c : Nat) (xs : List (Int × Int)) (w : World) (hn : xs.length = n) (hm : n ≤ 140737488351232)
    (hr : Rd w w.heap.size A (xs.map cvP)) (hp : ∀ (W : World) (x : Int × Int), x ∈ xs → Below w.heap.size w W → Calls Try.prog g (#[cvP x] ++ lb) W fun e w' => e = .returned (.bool (p x)) ∧ Below W.heap.size W w') :
    Calls Try.prog 39 #[.slice A n c, .func (.func g) #[] lb] w fun e w' => e = .returned (.bool (xs.any p)) ∧ Below w.heap.size w w' := by
  have HC := Lib.hid (indexFunc_C g lb eg p A n c xs w hn hm hr hp)
  clear hn hr hp
  go_enter Try.func39, Try.ntmps39
  go_wp2_with fail
  refine HC.out.mono ?_
  rintro e w' ⟨⟨r, rfl, hd⟩, hb⟩
  have HB := Lib.hid hb; clear hb
  have HD := Lib.hid hd; clear hd
  go_wp2
  go_ret
  exact ⟨ret_bool HD.out, HB.out⟩
theorem eZ_fin {a : Int} (h1 : -32 ≤ a) (h2 : a ≤ 32) : finB (eZ a) = true := (fx_v (z := a) (k := 3) (by omega) (by omega)).1.fin
theorem isFiniteC_any (x : Int × Int) (W : World) (h : Pt x) : Calls Try.prog 25 #[cvP x] W fun e w' => e = .returned (.bool true) ∧ ∃ m, w' = W.drewN m := by
  unfold Pt at h
  have H1 := Lib.hid (fun W => isFinite_any (eZ x.1) W)
  have H2 := Lib.hid (fun W => isFinite_any (eZ x.2) W)
  rw [eZ_fin (a := x.1) (by omega) (by omega)] at H1
  rw [eZ_fin (a := x.2) (by omega) (by omega)] at H2
  unfold cvP
  clear h
  go_enter Try.func25, Try.ntmps25
  go_wp2_with fail
  refine (H1.out _).mono ?_
  rintro e w' ⟨rfl, m, rfl⟩
  go_wp2_with fail
  refine (H2.out _).mono ?_
  rintro e w' ⟨rfl, m, rfl⟩
  go_wp2
  go_ret
  exact ⟨rfl, _, by first | rfl | exact World.drewN_drewN ..⟩
theorem finFnC_any (x : Int × Int) (W : World) (h : Pt x) : Calls Try.prog 40 #[cvP x] W fun e w' => e = .returned (.bool false) ∧ Below W.heap.size W w' := by
  have H := Lib.hid (fun W => isFiniteC_any x W h)
  clear h
  obtain ⟨v, hv⟩ : ∃ v, v = cvP x := ⟨_, rfl⟩
  rw [← hv] at H ⊢
  clear hv
  go_enter Try.func40, Try.ntmps40
  go_wp2_with fail
  refine (H.out _).mono ?_
  rintro e w' ⟨rfl, m, rfl⟩
  go_wp2
  go_ret
  exact ⟨rfl, below_drewN (Below.refl _ _) _⟩
/-- points -/
structure Pts (P : List (Int × Int)) (n : Nat) : Prop where
  len : P.length = n
  pt : ∀ p ∈ P, Pt p
set_option maxHeartbeats 1000000 in
theorem areFiniteC_any (A : Option Addr) (n c : Nat) (P : List (Int × Int)) (w : World) (hP : Pts P n) (hm : n ≤ 1048576) (hr : Rd w w.heap.size A (P.map cvP)) :
    Calls Try.prog 33 #[.slice A n c] w fun e w' => e = .returned (.bool true) ∧ Below w.heap.size w w' := by
  have eg := enters_of (P := Try.prog) Try.func40 (by kernel_rfl) rfl
  have HC := containsFunc_C 40 #[] eg (fun _ => false) A n c P w hP.len (by omega) hr (fun W x hx _ => by simpa using finFnC_any x W (hP.pt x hx))
  rw [show P.any (fun _ => false) = false by simp] at HC
  have HC := Lib.hid HC
  clear hr hP eg
  go_enter Try.func33, Try.ntmps33
  go_wp2_with fail
  refine HC.out.mono ?_
  rintro e w' ⟨rfl, hb⟩
  have HB := Lib.hid hb; clear hb
  go_wp2
  go_ret
  exact ⟨rfl, HB.out⟩
set_option maxHeartbeats 1000000 in
theorem arePoints_any (A : Option Addr) (n c : Nat) (P : List (Int × Int)) (w : World) (hP : Pts P n) (hm : n ≤ 256) (hr : Rd w w.heap.size A (P.map cvP)) :
    Calls Try.prog 20 #[.slice A n c] w fun e w' => e = .returned (.bool true) ∧ Below w.heap.size w w' := by
  have HC := Lib.hid (areFiniteC_any A n c P w hP (by omega) hr)
  clear hr hP
  go_enter Try.func20, Try.ntmps20
  go_wp2_with fail
  refine HC.out.mono ?_
  rintro e w' ⟨rfl, hb⟩
  have HB := Lib.hid hb; clear hb
  go_wp2
  go_ret
  exact ⟨rfl, HB.out⟩
end Go.Proofs.Ytikleaiflmoffaa
