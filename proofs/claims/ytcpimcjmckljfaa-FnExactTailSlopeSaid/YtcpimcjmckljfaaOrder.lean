/- How finite float32s stand to one another; the orders of places by their numbers; comparisons. -/
import Derived.Test.YtcpimcjmckljfaaBound
import Derived.Test.YtcpimcjmckljfaaSortKit
namespace Go.Proofs.Ytcpimcjmckljfaa
open Ieee Go.RowKit
/-- a finite number in units of 2 ^ -149 -/
def keyF (x : Nat) : Int := match FloatKind.f32.format.read x with | .number s m p => signed s m (p + 149).toNat | _ => 0
theorem signed_scale (s : Bool) (m a b : Nat) : signed s m (a + b) = signed s m a * (2 ^ b : Nat) := by
  unfold signed
  rw [Nat.shiftLeft_eq, Nat.shiftLeft_eq, Nat.pow_add, ← Nat.mul_assoc]
  cases s <;> simp [Int.neg_mul]
theorem compare_scale (u v : Int) {c : Int} (hc : 0 < c) : compare (u * c) (v * c) = compare u v := by
  rcases Int.lt_trichotomy u v with h | h | h
  · rw [Int.compare_eq_lt.2 h, Int.compare_eq_lt.2 (Int.mul_lt_mul_of_pos_right h hc)]
  · subst h; rw [Int.compare_eq_eq.2 rfl, Int.compare_eq_eq.2 rfl]
  · rw [Int.compare_eq_gt.2 h, Int.compare_eq_gt.2 (Int.mul_lt_mul_of_pos_right h hc)]
theorem order_key {x y : Nat} (hx : finB x = true) (hy : finB y = true) : FloatKind.f32.format.order x y = some (compare (keyF x) (keyF y)) := by
  obtain ⟨s, m, p, h1⟩ := fin_read hx
  obtain ⟨t, n, q, h2⟩ := fin_read hy
  have hp := read_place h1
  have hq := read_place h2
  unfold keyF
  rw [h1, h2]
  dsimp only
  unfold Format.order
  rw [h1, h2]
  unfold Datum.order
  dsimp only
  obtain ⟨base, hb⟩ : ∃ base, base = min p q := ⟨_, rfl⟩
  rw [← hb, show (p + 149).toNat = (p - base).toNat + (base + 149).toNat by omega, show (q + 149).toNat = (q - base).toNat + (base + 149).toNat by omega, signed_scale, signed_scale, compare_scale _ _ (by have := Nat.two_pow_pos (base + 149).toNat; omega)]
def cmpN (a b : Nat) : Int := if (FloatKind.f32.format.order a b == some .lt) = true then -1 else if (FloatKind.f32.format.order a b == some .gt) = true then 1 else 0
theorem cmpN_lt {a b : Nat} (ha : finB a = true) (hb : finB b = true) : cmpN a b < 0 ↔ keyF a < keyF b := by
  unfold cmpN
  rw [order_key ha hb]
  rcases Int.lt_trichotomy (keyF a) (keyF b) with h | h | h
  · rw [Int.compare_eq_lt.2 h]
    simp [h]
  · rw [Int.compare_eq_eq.2 h]
    simp [h]
  · rw [Int.compare_eq_gt.2 h]
    simp
    omega
theorem cmpN_gt {a b : Nat} (ha : finB a = true) (hb : finB b = true) : (FloatKind.f32.format.order a b == some .gt) = decide (keyF b < keyF a) := by
  rw [order_key ha hb]
  rcases Int.lt_trichotomy (keyF a) (keyF b) with h | h | h
  · rw [Int.compare_eq_lt.2 h, decide_eq_false (by omega)]; rfl
  · rw [Int.compare_eq_eq.2 h, decide_eq_false (by omega)]; rfl
  · rw [Int.compare_eq_gt.2 h, decide_eq_true h]; rfl
theorem cmpN_lt' {a b : Nat} (ha : finB a = true) (hb : finB b = true) : (FloatKind.f32.format.order a b == some .lt) = decide (keyF a < keyF b) := by
  rw [order_key ha hb]
  rcases Int.lt_trichotomy (keyF a) (keyF b) with h | h | h
  · rw [Int.compare_eq_lt.2 h, decide_eq_true h]; rfl
  · rw [Int.compare_eq_eq.2 h, decide_eq_false (by omega)]; rfl
  · rw [Int.compare_eq_gt.2 h, decide_eq_false (by omega)]; rfl
set_option maxHeartbeats 1000000 in
theorem compareNumbers_any (a b : Nat) (w : World) : Calls Try.prog 78 #[.float .f32 a, .float .f32 b] w fun e w' => e = .returned (.int .i64 (cmpN a b)) ∧ w' = w := by
  cases h1 : (FloatKind.f32.format.order a b == some .lt)
  · cases h2 : (FloatKind.f32.format.order a b == some .gt)
    · have HR : Hid (cmpN a b = 0) := Lib.hid (by unfold cmpN; rw [h1, h2]; rfl)
      go_enter Try.func78, Try.ntmps78
      go_wp2
      go_ret
      exact ⟨by rw [HR.out]; rfl, rfl⟩
    · have HR : Hid (cmpN a b = 1) := Lib.hid (by unfold cmpN; rw [h1, h2]; rfl)
      go_enter Try.func78, Try.ntmps78
      go_wp2
      go_ret
      exact ⟨by rw [HR.out]; rfl, rfl⟩
  · have HR : Hid (cmpN a b = -1) := Lib.hid (by unfold cmpN; rw [h1]; rfl)
    go_enter Try.func78, Try.ntmps78
    go_wp2
    go_ret
    exact ⟨by rw [HR.out]; rfl, rfl⟩
/-- the key of a place -/
def keyAt (xs : List Nat) (i : Nat) : Int := keyF (xs.getD i 0)
/-- downwards, then by the place -/
def ltD (xs : List Nat) (i j : Nat) : Prop := keyAt xs j < keyAt xs i ∨ (keyAt xs i = keyAt xs j ∧ i < j)
/-- upwards, then by the place -/
def ltA (xs : List Nat) (i j : Nat) : Prop := keyAt xs i < keyAt xs j ∨ (keyAt xs i = keyAt xs j ∧ i < j)
theorem ltD_tr (xs : List Nat) : ∀ x y z, ltD xs x y → ltD xs y z → ltD xs x z := by
  intro x y z h1 h2
  unfold ltD at *
  omega
theorem ltA_tr (xs : List Nat) : ∀ x y z, ltA xs x y → ltA xs y z → ltA xs x z := by
  intro x y z h1 h2
  unfold ltA at *
  omega
theorem ltD_as (xs : List Nat) : ∀ x y, ltD xs x y → ltD xs y x → False := by
  intro x y h1 h2
  unfold ltD at *
  omega
theorem ltA_as (xs : List Nat) : ∀ x y, ltA xs x y → ltA xs y x → False := by
  intro x y h1 h2
  unfold ltA at *
  omega
open Classical in
/-- the one list in order -/
noncomputable def sortedOf (lt : Nat → Nat → Prop) (ts : List Nat) : List Nat := if h : ∃ M : List Nat, M.Perm ts ∧ M.Pairwise lt then Classical.choose h else []
theorem sortedOf_eq {lt : Nat → Nat → Prop} (hasy : ∀ x y, lt x y → lt y x → False) {ts M : List Nat} (h1 : M.Perm ts) (h2 : M.Pairwise lt) : sortedOf lt ts = M := by
  unfold sortedOf
  rw [dif_pos ⟨M, h1, h2⟩]
  have h := Classical.choose_spec (⟨M, h1, h2⟩ : ∃ M : List Nat, M.Perm ts ∧ M.Pairwise lt)
  exact sorted_eq hasy h.2 h2 (h.1.trans h1.symm)
theorem fin_get {xs : List Nat} (h : ∀ x ∈ xs, finB x = true) (i : Nat) : finB (xs.getD i 0) = true := by
  rcases Nat.lt_or_ge i xs.length with hi | hi
  · rw [List.getD_eq_getElem?_getD, List.getElem?_eq_getElem hi]
    exact h _ (List.getElem_mem hi)
  · rw [List.getD_eq_getElem?_getD, List.getElem?_eq_none hi]
    decide
theorem range_lt (n : Nat) : (List.range n).Pairwise (· < ·) := List.pairwise_lt_range
/-- a cell of another block, in a world of the sort -/
theorem sw_cell {enc : Nat → Value} {w : World} {blk off m : Nat} {dk : Array Nat} {os : Array Obj} {a : Addr} (h1 : a.block < w.heap.size) (h2 : a.block ≠ blk) : (sortWorld enc w blk off m dk os).cell? a = w.cell? a := by
  unfold sortWorld
  rw [Go.Sort.cell?_grow _ _ _ (by rw [size_putRow]; exact h1), Go.Sort.cell?_putRow_other enc _ blk off _ _ (Or.inl h2)]
  rfl
end Go.Proofs.Ytcpimcjmckljfaa
