/- Sheets: which are valid, both ways; the size counts; their copies; comparison of equal ones; the marks. -/
import Derived.Test.YtcpimcjmckljfaaBeside
namespace Go.Proofs.Ytcpimcjmckljfaa
open Go.RowKit
/-- a sheet is valid -/
def vS (wd hg : Int) (xs : List Nat) : Bool := vF wd hg xs.length && finL xs
set_option maxHeartbeats 400000 in
theorem isSide_any (n : Int) (w : World) : Calls Try.prog 97 #[.int .i64 n] w fun e w' => e = .returned (.bool (inB n 1 17)) ∧ w = w' := by
  go_enter Try.func97, Try.ntmps97
  go_wp2_with (go_at_call 84; refine (within_any _ _ _ _).mono ?_; rintro e w' ⟨rfl, rfl⟩)
  go_ret
  exact ⟨rfl, rfl⟩
set_option maxHeartbeats 1000000 in
theorem validSheet_any (wd hg : Int) (A : Option Addr) (n c : Nat) (xs : List Nat) (w : World) (hn : xs.length = n) (hc : n ≤ 140737488351232) (hr : Rd w w.heap.size A (xs.map (Value.float .f32))) :
    Calls Try.prog 62 #[.agg #[.int .i64 wd, .int .i64 hg, .slice A n c]] w fun e w' => e = .returned (.bool (vS wd hg xs)) ∧ Below w.heap.size w w' := by
  have CF := Lib.hid (areFinite_any A n c xs (w.alloc (.cells #[.int .i64 wd, .int .i64 hg, .slice A n c] 41)) hn hc (hr.next (below_new w _)))
  clear hr
  by_cases hw : 1 ≤ wd ∧ wd ≤ 17
  · have bw := inB_t hw.1 hw.2
    by_cases hh : 1 ≤ hg ∧ hg ≤ 17
    · have bh := inB_t hh.1 hh.2
      obtain ⟨p1, p2⟩ := prod_bd hw.1 hw.2 hh.1 hh.2
      by_cases hp : (n : Int) = wd * hg
      · have hX : vS wd hg xs = finL xs := by unfold vS; rw [vF_iff.2 ⟨⟨hw, hh⟩, by rw [hn]; exact hp⟩]; rfl
        have HX := Lib.hid hX; clear hX hn
        have hb : ((n : Int) == wd * hg) = true := by rw [beq_iff_eq]; exact hp
        clear hp
        go_enter Try.func62, Try.ntmps62
        go_wp2_with (first | (go_at_call 97; refine (isSide_any _ _).mono ?_; rintro e w' ⟨rfl, rfl⟩) | (go_at_call 82; refine CF.out.mono ?_; rintro e w' ⟨rfl, hb1⟩; have HB1 := Lib.hid hb1; clear hb1))
        go_ret
        exact ⟨ret_bool HX.out.symm, bthen (below_new w _) HB1.out⟩
      · have hX : vS wd hg xs = false := by unfold vS; rw [show vF wd hg xs.length = false from by rw [← Bool.not_eq_true, vF_iff, hn]; exact fun h => hp h.2]; rfl
        have HX := Lib.hid hX; clear hX hn
        have hb : ((n : Int) == wd * hg) = false := by rw [beq_eq_false_iff_ne]; exact hp
        clear hp
        go_enter Try.func62, Try.ntmps62
        go_wp2_with (go_at_call 97; refine (isSide_any _ _).mono ?_; rintro e w' ⟨rfl, rfl⟩)
        go_ret
        exact ⟨ret_bool HX.out.symm, below_new w _⟩
    · have bh := inB_f hh
      have hX : vS wd hg xs = false := by unfold vS; rw [show vF wd hg xs.length = false from by rw [← Bool.not_eq_true, vF_iff]; exact fun h => hh h.1.2]; rfl
      have HX := Lib.hid hX; clear hX
      clear hh hw
      go_enter Try.func62, Try.ntmps62
      go_wp2_with (go_at_call 97; refine (isSide_any _ _).mono ?_; rintro e w' ⟨rfl, rfl⟩)
      go_ret
      exact ⟨ret_bool HX.out.symm, below_new w _⟩
  · have bw := inB_f hw
    have hX : vS wd hg xs = false := by unfold vS; rw [show vF wd hg xs.length = false from by rw [← Bool.not_eq_true, vF_iff]; exact fun h => hw h.1.1]; rfl
    have HX := Lib.hid hX; clear hX
    clear hw
    go_enter Try.func62, Try.ntmps62
    go_wp2_with (go_at_call 97; refine (isSide_any _ _).mono ?_; rintro e w' ⟨rfl, rfl⟩)
    go_ret
    exact ⟨ret_bool HX.out.symm, below_new w _⟩

set_option maxHeartbeats 2000000 in
set_option maxRecDepth 100000 in
theorem l05Is_any (wd hg : Int) (A : Option Addr) (n c b : Nat) (xs : List Nat) (w : World) (hn : xs.length = n) (hc : n ≤ 140737488351232) (hr : Rd w w.heap.size A (xs.map (Value.float .f32))) (hx : FBox w b wd hg (.slice A n c)) :
    Calls Try.prog 57 #[.pointer (some ⟨b, 0, none⟩)] w fun e w' => e = .returned (.bool (vS wd hg xs)) ∧ ∃ m, w' = w.drewN m := by
  obtain ⟨c0, c1, c2⟩ := hx
  have CF := Lib.hid (fun k => l02Finite_any A n c xs (w.drewN k) hn hc (rd_drw hr ⟨k, rfl⟩))
  clear hr
  have H83 := Lib.hid (fun (x : Int) (b : Bool) (hb : inB x 1 17 = b) W => (l00In_any x 1 17 W).mono (R' := fun e w' => e = .returned (.bool b) ∧ w' = W) fun _ _ h => ⟨h.1.trans (ret_bool hb), h.2.symm⟩)
  by_cases hw : 1 ≤ wd ∧ wd ≤ 17
  · have bw := inB_t hw.1 hw.2
    by_cases hh : 1 ≤ hg ∧ hg ≤ 17
    · have bh := inB_t hh.1 hh.2
      obtain ⟨p1, p2⟩ := prod_bd hw.1 hw.2 hh.1 hh.2
      have hwr : IntKind.i64.wrap (wd * hg) = wd * hg := IntWalk.i64_in _ (by omega)
      by_cases hp : (n : Int) = wd * hg
      · have hX : vS wd hg xs = finL xs := by unfold vS; rw [vF_iff.2 ⟨⟨hw, hh⟩, by rw [hn]; exact hp⟩]; rfl
        have HX := Lib.hid hX; clear hX hn
        have hb : ((n : Int) == wd * hg) = true := by rw [beq_iff_eq]; exact hp
        clear hp
        go_enter Try.func57, Try.ntmps57
        go_wp2
        go_quiet (first | (go_at_call 83; exact Calls.quiet_of_same (H83.out _ _ (by assumption) _)) | (go_at_call 91; exact Calls.quiet_of (CF.out _)))
        go_wp2
        go_ret
        exact ⟨ret_bool HX.out.symm, _, rfl⟩
      · have hX : vS wd hg xs = false := by unfold vS; rw [show vF wd hg xs.length = false from by rw [← Bool.not_eq_true, vF_iff, hn]; exact fun h => hp h.2]; rfl
        have HX := Lib.hid hX; clear hX hn
        have hb : ((n : Int) == wd * hg) = false := by rw [beq_eq_false_iff_ne]; exact hp
        clear hp
        go_enter Try.func57, Try.ntmps57
        go_wp2
        go_quiet ((go_at_call 83; exact Calls.quiet_of_same (H83.out _ _ (by assumption) _)))
        go_wp2
        go_ret
        exact ⟨ret_bool HX.out.symm, _, rfl⟩
    · have bh := inB_f hh
      have hX : vS wd hg xs = false := by unfold vS; rw [show vF wd hg xs.length = false from by rw [← Bool.not_eq_true, vF_iff]; exact fun h => hh h.1.2]; rfl
      have HX := Lib.hid hX; clear hX
      clear hh hw
      go_enter Try.func57, Try.ntmps57
      go_wp2
      go_quiet ((go_at_call 83; exact Calls.quiet_of_same (H83.out _ _ (by assumption) _)))
      go_wp2
      go_ret
      exact ⟨ret_bool HX.out.symm, _, rfl⟩
  · have bw := inB_f hw
    have hX : vS wd hg xs = false := by unfold vS; rw [show vF wd hg xs.length = false from by rw [← Bool.not_eq_true, vF_iff]; exact fun h => hw h.1.1]; rfl
    have HX := Lib.hid hX; clear hX
    clear hw
    go_enter Try.func57, Try.ntmps57
    go_wp2
    go_quiet ((go_at_call 83; exact Calls.quiet_of_same (H83.out _ _ (by assumption) _)))
    go_wp2
    go_ret
    exact ⟨ret_bool HX.out.symm, _, rfl⟩
end Go.Proofs.Ytcpimcjmckljfaa
