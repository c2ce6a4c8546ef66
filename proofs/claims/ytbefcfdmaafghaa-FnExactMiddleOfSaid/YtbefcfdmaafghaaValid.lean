/- What is valid: contracts of the two ValidField, of the size counts and of the copies of a field. -/
import Derived.Test.YtbefcfdmaafghaaSmall
import Derived.Deep.RegionHeld3
import Derived.StillTailTactics
namespace Go.Proofs.Ytbefcfdmaafghaa
open Go.RowKit

/-- both sides from 1 to 16 -/
def sidesB (wd hg : Int) : Bool := inB wd 1 16 && inB hg 1 16
/-- a field is valid -/
def vF (wd hg : Int) (n : Nat) : Bool := sidesB wd hg && decide ((n : Int) = wd * hg)

theorem inB_iff {n lo hi : Int} : inB n lo hi = true ↔ lo ≤ n ∧ n ≤ hi := by simp [inB]
theorem sidesB_iff {wd hg : Int} : sidesB wd hg = true ↔ (1 ≤ wd ∧ wd ≤ 16) ∧ (1 ≤ hg ∧ hg ≤ 16) := by simp [sidesB, inB_iff]
theorem vF_iff {wd hg : Int} {n : Nat} : vF wd hg n = true ↔ ((1 ≤ wd ∧ wd ≤ 16) ∧ (1 ≤ hg ∧ hg ≤ 16)) ∧ (n : Int) = wd * hg := by simp [vF, sidesB_iff]
theorem prod_bd {wd hg : Int} (h1 : 1 ≤ wd) (h2 : wd ≤ 16) (h3 : 1 ≤ hg) (h4 : hg ≤ 16) : 1 ≤ wd * hg ∧ wd * hg ≤ 256 := by
  have a := Int.mul_le_mul h1 h3 (by omega) (by omega)
  have b := Int.mul_le_mul h2 h4 (by omega) (by omega)
  omega

set_option maxHeartbeats 400000 in
theorem isSide_any (n : Int) (w : World) : Calls Try.prog 77 #[.int .i64 n] w fun e w' => e = .returned (.bool (inB n 1 16)) ∧ w = w' := by
  go_enter Try.func77, Try.ntmps77
  go_wp2_with (go_at_call 105; refine (within_any _ _ _ _).mono ?_; rintro e w' ⟨rfl, rfl⟩)
  go_ret
  exact ⟨rfl, rfl⟩

set_option maxHeartbeats 400000 in
theorem l07Sides_any (wd hg : Int) (w : World) : Calls Try.prog 80 #[.int .i64 wd, .int .i64 hg] w fun e w' => e = .returned (.bool (sidesB wd hg)) ∧ w = w' := by
  rcases hw : inB wd 1 16 <;> rcases hh : inB hg 1 16
  all_goals
    have hX : sidesB wd hg = (inB wd 1 16 && inB hg 1 16) := rfl
    rw [hw, hh] at hX
    have HX := Lib.hid hX; clear hX
    go_enter Try.func80, Try.ntmps80
    go_wp2_with (go_at_call 98; refine (l00In_any _ _ _ _).mono ?_; rintro e w' ⟨rfl, rfl⟩)
    go_ret
    exact ⟨ret_bool HX.out.symm, rfl⟩

set_option maxHeartbeats 1000000 in
theorem validField_any (wd hg : Int) (A : Option Addr) (n c : Nat) (w : World) (_hc : n ≤ 140737488351232) :
    Calls Try.prog 22 #[.agg #[.int .i64 wd, .int .i64 hg, .slice A n c]] w fun e w' => e = .returned (.bool (vF wd hg n)) ∧ Below w.heap.size w w' := by
  by_cases hw : 1 ≤ wd ∧ wd ≤ 16
  · have bw := inB_t hw.1 hw.2
    by_cases hh : 1 ≤ hg ∧ hg ≤ 16
    · have bh := inB_t hh.1 hh.2
      obtain ⟨p1, p2⟩ := prod_bd hw.1 hw.2 hh.1 hh.2
      by_cases hp : (n : Int) = wd * hg
      · have hX : vF wd hg n = true := by rw [vF_iff]; exact ⟨⟨hw, hh⟩, hp⟩
        have HX := Lib.hid hX; clear hX
        have hb : ((n : Int) == wd * hg) = true := by rw [beq_iff_eq]; exact hp
        clear hp
        go_enter Try.func22, Try.ntmps22
        go_wp2_with (go_at_call 77; refine (isSide_any _ _).mono ?_; rintro e w' ⟨rfl, rfl⟩)
        go_ret
        exact ⟨ret_bool HX.out.symm, (Below.refl _ _).alloc (Nat.le_refl _) _⟩
      · have hX : vF wd hg n = false := by rw [← Bool.not_eq_true, vF_iff]; exact fun h => hp h.2
        have HX := Lib.hid hX; clear hX
        have hb : ((n : Int) == wd * hg) = false := by rw [beq_eq_false_iff_ne]; exact hp
        clear hp
        go_enter Try.func22, Try.ntmps22
        go_wp2_with (go_at_call 77; refine (isSide_any _ _).mono ?_; rintro e w' ⟨rfl, rfl⟩)
        go_ret
        exact ⟨ret_bool HX.out.symm, (Below.refl _ _).alloc (Nat.le_refl _) _⟩
    · have bh := inB_f hh
      have hX : vF wd hg n = false := by rw [← Bool.not_eq_true, vF_iff]; exact fun h => hh h.1.2
      have HX := Lib.hid hX; clear hX
      clear hh hw
      go_enter Try.func22, Try.ntmps22
      go_wp2_with (go_at_call 77; refine (isSide_any _ _).mono ?_; rintro e w' ⟨rfl, rfl⟩)
      go_ret
      exact ⟨ret_bool HX.out.symm, (Below.refl _ _).alloc (Nat.le_refl _) _⟩
  · have bw := inB_f hw
    have hX : vF wd hg n = false := by rw [← Bool.not_eq_true, vF_iff]; exact fun h => hw h.1.1
    have HX := Lib.hid hX; clear hX
    clear hw
    go_enter Try.func22, Try.ntmps22
    go_wp2_with (go_at_call 77; refine (isSide_any _ _).mono ?_; rintro e w' ⟨rfl, rfl⟩)
    go_ret
    exact ⟨ret_bool HX.out.symm, (Below.refl _ _).alloc (Nat.le_refl _) _⟩

/-- A box that holds a field. -/
def FBox (w : World) (b : Nat) (wd hg : Int) (v : Value) : Prop :=
  w.cell? ⟨b, 0, none⟩ = some (.int .i64 wd) ∧ w.cell? ⟨b, 1, none⟩ = some (.int .i64 hg) ∧ w.cell? ⟨b, 2, none⟩ = some v

set_option maxHeartbeats 1000000 in
theorem l07Is_any (wd hg : Int) (A : Option Addr) (n c b : Nat) (w : World) (_hc : n ≤ 140737488351232) (hx : FBox w b wd hg (.slice A n c)) :
    Calls Try.prog 76 #[.pointer (some ⟨b, 0, none⟩)] w fun e w' => e = .returned (.bool (vF wd hg n)) ∧ ∃ m, w' = w.drewN m := by
  obtain ⟨c0, c1, c2⟩ := hx
  by_cases hs : sidesB wd hg = true
  · have hs' := sidesB_iff.1 hs
    obtain ⟨p1, p2⟩ := prod_bd hs'.1.1 hs'.1.2 hs'.2.1 hs'.2.2
    have hwr : IntKind.i64.wrap (wd * hg) = wd * hg := IntWalk.i64_in _ (by omega)
    have C := fun W => (l07Sides_any wd hg W).mono (R' := fun e w' => e = .returned (.bool true) ∧ w' = W) fun _ _ h => ⟨h.1.trans (ret_bool hs), h.2.symm⟩
    by_cases hp : (n : Int) = wd * hg
    · have hX : vF wd hg n = true := by rw [vF_iff]; exact ⟨hs', hp⟩
      have HX := Lib.hid hX; clear hX hs'
      have hb : ((n : Int) == wd * hg) = true := by rw [beq_iff_eq]; exact hp
      clear hp hs
      go_enter Try.func76, Try.ntmps76
      go_wp2
      go_quiet ((go_at_call 80; exact Calls.quiet_of_same (C _)))
      go_wp2
      go_ret
      exact ⟨ret_bool HX.out.symm, _, rfl⟩
    · have hX : vF wd hg n = false := by rw [← Bool.not_eq_true, vF_iff]; exact fun h => hp h.2
      have HX := Lib.hid hX; clear hX hs'
      have hb : ((n : Int) == wd * hg) = false := by rw [beq_eq_false_iff_ne]; exact hp
      clear hp hs
      go_enter Try.func76, Try.ntmps76
      go_wp2
      go_quiet ((go_at_call 80; exact Calls.quiet_of_same (C _)))
      go_wp2
      go_ret
      exact ⟨ret_bool HX.out.symm, _, rfl⟩
  · have hs0 : sidesB wd hg = false := by simpa using hs
    have hX : vF wd hg n = false := by simp [vF, hs0]
    have HX := Lib.hid hX; clear hX hs
    have C := fun W => (l07Sides_any wd hg W).mono (R' := fun e w' => e = .returned (.bool false) ∧ w' = W) fun _ _ h => ⟨h.1.trans (ret_bool hs0), h.2.symm⟩
    clear hs0
    go_enter Try.func76, Try.ntmps76
    go_wp2
    go_quiet ((go_at_call 80; exact Calls.quiet_of_same (C _)))
    go_wp2
    go_ret
    exact ⟨ret_bool HX.out.symm, _, rfl⟩

end Go.Proofs.Ytbefcfdmaafghaa
