/- Rows of a law's own, what a write into one leaves of the others, and the marks of floats read back. -/
import Derived.Test.YtcpimcjmckljfaaFlos
namespace Go.Proofs.Ytcpimcjmckljfaa
open Ieee Go.RowKit
/-- a row of the call's own that lies between two blocks -/
def RowIn (w : World) (el : TypeId) (lo hi : Nat) (A : Option Addr) (n c : Nat) (xs : List Value) : Prop :=
  w.ownsRow lo el 1 (.slice A n c) n xs ∧ ∀ k, (Value.slice A n c).ownBlock = some k → k < hi
section
variable {w w' : World} {el el' : TypeId} {lo hi lo' hi' B : Nat} {A A' : Option Addr} {n c n' c' : Nat} {xs xs' : List Value}
theorem RowIn.new (ho : w.ownsRow lo el 1 (.slice A n c) n xs) : RowIn w el lo w.heap.size A n c xs := ⟨ho, fun k hk => (ho.lt k hk).2⟩
theorem RowIn.below (h : RowIn w el lo hi A n c xs) (hb : Below B w w') (hB : hi ≤ B) : RowIn w' el lo hi A n c xs :=
  ⟨own_below h.1 hb fun k hk => Nat.lt_of_lt_of_le (h.2 k hk) hB, h.2⟩
theorem RowIn.rd (h : RowIn w el lo hi A n c xs) : Rd w w.heap.size A xs := Rd.own h.1
theorem RowIn.grown (h : RowIn w el lo hi A n c xs) (h' : RowIn w el' lo' hi' A' n' c' xs') (hg : w.grownBy w' (Value.slice A' n' c').ownBlock) (hd : hi ≤ lo' ∨ hi' ≤ lo) : RowIn w' el lo hi A n c xs := by
  refine ⟨h.1.kept hg ?_, h.2⟩
  cases hk : (Value.slice A n c).ownBlock with
  | none => exact .inl rfl
  | some k =>
    right
    intro he
    have h1 := h.2 k hk
    have h2 := (h.1.lt k hk).1
    have h3 := h'.2 k he.symm
    have h4 := (h'.1.lt k he.symm).1
    omega
theorem belowGrownR {a : World} (h : Below B a w) (h' : RowIn w el' lo' hi' A' n' c' xs') (hgr : w.grownBy w' (Value.slice A' n' c').ownBlock) (hB : B ≤ w.heap.size) (hlo : B ≤ lo') : Below B a w' :=
  h.grown hgr hB fun k hk => Nat.le_trans hlo (h'.1.lt k hk).1
theorem RowIn.written (h : RowIn w el lo hi A n c xs) (ho : w'.ownsRow lo el 1 (.slice A n c) n xs') : RowIn w' el lo hi A n c xs' := ⟨ho, h.2⟩
end
theorem int_num {z : Int} (h0 : 0 ≤ z) (h1 : z < 1180591620717411303424) : nanF .f32 (floatOfInt .f32 z) = false := by
  have h : Fits (FloatKind.f32.format.read (FloatKind.f32.format.nearest (decide (z < 0)) z.natAbs 0)) (69 + 1) := by
    refine fits_write FloatKind.f32.format _ _ 0 69 ?_ (by decide) (by decide)
    by_cases hz : z.natAbs = 0
    · exact .inl hz
    · right
      have : z.natAbs.log2 < 70 := by rw [Nat.log2_lt hz]; omega
      omega
  exact (fits_nan h).1
set_option maxHeartbeats 1000000 in
theorem heldFloat32S_any (A : Option Addr) (n c k : Nat) (w : World) (hk : k + n ≤ 1099511627776) (hr : Rd w w.heap.size A ((List.range n).map (mkF k))) :
    Calls Try.prog 23 #[.slice A n c, .int .i64 k] w fun e w' => e = .returned (.int .i64 ((k + n : Nat) : Int)) ∧ w = w' := by
  have Hr := Lib.hid hr; clear hr
  have hcv := fun (n : Int) (w : World) => run_convert_int_float (P := Try.prog) w 3 23 .i64 .f32 n (by rw [Try.underlying3]; rfl) Try.underlying23
  go_enter Try.func23, Try.ntmps23
  go_wp2
  go_loop [1, 5] (fun kk i => ∃ j : Nat, j ≤ n ∧ i = .int .i64 j ∧ kk = .int .i64 ((k + j : Nat) : Int)) (fun _ i => n - (intOf i).toNat)
  case atStart => exact ⟨0, Nat.zero_le _, rfl, rfl⟩
  case round =>
    obtain ⟨j, hj, rfl, rfl⟩ := hrel
    by_cases hlt : j < n
    · obtain ⟨ad, rfl, _, hx⟩ := Hr.out.at_ (k := j) (by simpa using hlt)
      rw [List.getElem_map, List.getElem_range] at hx
      unfold mkF at hx
      have hkj : ((k + j : Nat) : Int) = (k : Int) + (j : Int) := by omega
      have ho := order_self (int_num (z := (k : Int) + (j : Int)) (by omega) (by omega))
      rw [hkj]
      clear hkj
      go_wp2
      go_round
      case rel => exact ⟨j + 1, by omega, by go_num, by go_num⟩
      case measure => simp [intOf]; omega
    · have hjn : j = n := by omega
      subst hjn
      go_wp2
      go_ret
      exact ⟨rfl, rfl⟩
end Go.Proofs.Ytcpimcjmckljfaa
