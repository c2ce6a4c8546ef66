/- Weights of a grid: both tests. -/
import Derived.Test.YtbefcfdmaafghaaFlos
import Derived.Test.YtbefcfdmaafghaaEmpty
namespace Go.Proofs.Ytbefcfdmaafghaa
open Go.RowKit
/-- weights are such -/
def wOk (wd hg : Int) (ws : List Nat) : Bool := vF wd hg ws.length && finL ws
set_option maxHeartbeats 2000000 in
theorem areWeights_any (wd hg : Int) (A : Option Addr) (n c : Nat) (ws : List Nat) (w : World) (hn : ws.length = n) (hm : n ≤ 1048576) (hr : Rd w w.heap.size A (ws.map (Value.float .f32))) :
    Calls Try.prog 104 #[.slice A n c, .int .i64 wd, .int .i64 hg] w fun e w' => e = .returned (.bool (wOk wd hg ws)) ∧ Below w.heap.size w w' := by
  have HC := Lib.hid (areFinite_any A n c ws w hn (by omega) hr)
  have Hn := Lib.hid hn
  clear hr hn
  by_cases hs : sidesB wd hg = true
  · have hs' := sidesB_iff.1 hs
    obtain ⟨p1, p2⟩ := prod_bd hs'.1.1 hs'.1.2 hs'.2.1 hs'.2.2
    have hwr : IntKind.i64.wrap (wd * hg) = wd * hg := IntWalk.i64_in _ (by omega)
    have c1 := inB_t hs'.1.1 hs'.1.2
    have c2 := inB_t hs'.2.1 hs'.2.2
    have C1 := fun W => isSide_any wd W
    have C2 := fun W => isSide_any hg W
    rw [c1] at C1
    rw [c2] at C2
    have H1 := Lib.hid C1; have H2 := Lib.hid C2
    clear C1 C2 c1 c2
    by_cases hp : (n : Int) = wd * hg
    · have HX : Hid (wOk wd hg ws = finL ws) := Lib.hid (by
        unfold wOk; rw [Hn.out, show vF wd hg n = true from by rw [vF_iff]; exact ⟨hs', hp⟩]; rfl)
      have hb : ((n : Int) == wd * hg) = true := by rw [beq_iff_eq]; exact hp
      clear hp hs hs'
      go_enter Try.func104, Try.ntmps104
      go_wp2_with fail
      refine (H1.out _).mono ?_
      rintro e w' ⟨rfl, rfl⟩
      go_wp2_with fail
      refine (H2.out _).mono ?_
      rintro e w' ⟨rfl, rfl⟩
      go_wp2_with fail
      refine HC.out.mono ?_
      rintro e w' ⟨rfl, hb⟩
      have HB := Lib.hid hb; clear hb
      go_wp2
      go_ret
      exact ⟨ret_bool HX.out.symm, HB.out⟩
    · have HX : Hid (wOk wd hg ws = false) := Lib.hid (by
        unfold wOk; rw [Hn.out, show vF wd hg n = false from by rw [← Bool.not_eq_true, vF_iff]; exact fun h => hp h.2]; rfl)
      have hb : ((n : Int) == wd * hg) = false := by rw [beq_eq_false_iff_ne]; exact hp
      clear hp hs hs'
      go_enter Try.func104, Try.ntmps104
      go_wp2_with fail
      refine (H1.out _).mono ?_
      rintro e w' ⟨rfl, rfl⟩
      go_wp2_with fail
      refine (H2.out _).mono ?_
      rintro e w' ⟨rfl, rfl⟩
      go_wp2
      go_ret
      exact ⟨ret_bool HX.out.symm, Below.refl _ _⟩
  · have hs0 : sidesB wd hg = false := by simpa using hs
    have HX : Hid (wOk wd hg ws = false) := Lib.hid (by unfold wOk vF; rw [hs0]; rfl)
    rcases not_sides hs with h1 | ⟨h1, h2⟩
    · have C1 := fun W => isSide_any wd W
      rw [h1] at C1
      have H1 := Lib.hid C1
      clear C1 h1 hs hs0
      go_enter Try.func104, Try.ntmps104
      go_wp2_with fail
      refine (H1.out _).mono ?_
      rintro e w' ⟨rfl, rfl⟩
      go_wp2
      go_ret
      exact ⟨ret_bool HX.out.symm, Below.refl _ _⟩
    · have C1 := fun W => isSide_any wd W
      have C2 := fun W => isSide_any hg W
      rw [h1] at C1
      rw [h2] at C2
      have H1 := Lib.hid C1; have H2 := Lib.hid C2
      clear C1 C2 h1 h2 hs hs0
      go_enter Try.func104, Try.ntmps104
      go_wp2_with fail
      refine (H1.out _).mono ?_
      rintro e w' ⟨rfl, rfl⟩
      go_wp2_with fail
      refine (H2.out _).mono ?_
      rintro e w' ⟨rfl, rfl⟩
      go_wp2
      go_ret
      exact ⟨ret_bool HX.out.symm, Below.refl _ _⟩
set_option maxHeartbeats 2000000 in
theorem l07Weights_any (wd hg : Int) (A : Option Addr) (n c : Nat) (ws : List Nat) (w : World) (hn : ws.length = n) (hm : n ≤ 1048576) (hr : Rd w w.heap.size A (ws.map (Value.float .f32))) :
    Calls Try.prog 102 #[.slice A n c, .int .i64 wd, .int .i64 hg] w fun e w' => e = .returned (.bool (wOk wd hg ws)) ∧ Below w.heap.size w w' := by
  have HC := Lib.hid (l02Finite_any A n c ws w hn (by omega) hr)
  have Hn := Lib.hid hn
  have C1 := fun W => l07Sides_any wd hg W
  clear hr hn
  cases hs : sidesB wd hg
  · have HX : Hid (wOk wd hg ws = false) := Lib.hid (by unfold wOk vF; rw [hs]; rfl)
    rw [hs] at C1
    have H1 := Lib.hid C1
    clear C1 hs
    go_enter Try.func102, Try.ntmps102
    go_wp2_with fail
    refine (H1.out _).mono ?_
    rintro e w' ⟨rfl, rfl⟩
    go_wp2
    go_ret
    exact ⟨ret_bool HX.out.symm, Below.refl _ _⟩
  · have hs' := sidesB_iff.1 hs
    obtain ⟨p1, p2⟩ := prod_bd hs'.1.1 hs'.1.2 hs'.2.1 hs'.2.2
    have hwr : IntKind.i64.wrap (wd * hg) = wd * hg := IntWalk.i64_in _ (by omega)
    rw [hs] at C1
    have H1 := Lib.hid C1
    clear C1 hs
    by_cases hp : (n : Int) = wd * hg
    · have HX : Hid (wOk wd hg ws = finL ws) := Lib.hid (by
        unfold wOk; rw [Hn.out, show vF wd hg n = true from by rw [vF_iff]; exact ⟨hs', hp⟩]; rfl)
      have hb : ((n : Int) == wd * hg) = true := by rw [beq_iff_eq]; exact hp
      clear hp hs'
      go_enter Try.func102, Try.ntmps102
      go_wp2_with fail
      refine (H1.out _).mono ?_
      rintro e w' ⟨rfl, rfl⟩
      go_wp2_with fail
      refine HC.out.mono ?_
      rintro e w' ⟨rfl, m, rfl⟩
      go_wp2
      go_ret
      exact ⟨ret_bool HX.out.symm, below_drewN (Below.refl _ _) _⟩
    · have HX : Hid (wOk wd hg ws = false) := Lib.hid (by
        unfold wOk; rw [Hn.out, show vF wd hg n = false from by rw [← Bool.not_eq_true, vF_iff]; exact fun h => hp h.2]; rfl)
      have hb : ((n : Int) == wd * hg) = false := by rw [beq_eq_false_iff_ne]; exact hp
      clear hp hs'
      go_enter Try.func102, Try.ntmps102
      go_wp2_with fail
      refine (H1.out _).mono ?_
      rintro e w' ⟨rfl, rfl⟩
      go_wp2
      go_ret
      exact ⟨ret_bool HX.out.symm, Below.refl _ _⟩
end Go.Proofs.Ytbefcfdmaafghaa
