/- SortLaw, SortKit, Order -/
import Derived.Test.YtbojlgbkkdnegaaSort
import Derived.Test.YtbojlgbkkdnegaaBa
import Derived.Shelf.SlSortCmp.Kit1
import Derived.Sort.WalkA
import Derived.Sort.WalkB2
import Derived.Sort.WalkB12
import Derived.Test.YtbojlgbkkdnegaaBo
-- Places in sorted lists. No program in this text.
namespace Go.Proofs.Ytbojlgbkkdnegaa
section
variable {α : Type} {lt : α → α → Prop}
theorem lo_upto (tr : ∀ x y z, lt x y → lt y z → lt x z) {R : List α} (hR : R.Pairwise lt) {y : α} {k : Nat} (hk : k < R.length) (h : lt R[k] y) : ∀ (k' : Nat) (h' : k' < R.length), k' ≤ k → lt R[k'] y := by
  intro k' h' hle
  rcases pair_le hR h' hk hle with e | e
  · rw [e]; exact h
  · exact tr _ _ _ e h
theorem hi_from (tr : ∀ x y z, lt x y → lt y z → lt x z) {R : List α} (hR : R.Pairwise lt) {y : α} {k : Nat} (hk : k < R.length) (h : lt y R[k]) : ∀ (k' : Nat) (h' : k' < R.length), k ≤ k' → lt y R[k'] := by
  intro k' h' hle
  rcases pair_le hR hk h' hle with e | e
  · rw [← e]; exact h
  · exact tr _ _ _ h e
theorem take_all {R : List α} {p : α → Prop} {k : Nat} (h : ∀ (k' : Nat) (h' : k' < R.length), k' < k → p R[k']) : ∀ z ∈ R.take k, p z := by
  intro z hz
  obtain ⟨i, hi, rfl⟩ := List.getElem_of_mem hz
  rw [List.length_take] at hi
  rw [List.getElem_take]
  exact h i (by omega) (by omega)
theorem drop_all {R : List α} {p : α → Prop} {k : Nat} (h : ∀ (k' : Nat) (h' : k' < R.length), k ≤ k' → p R[k']) : ∀ z ∈ R.drop k, p z := by
  intro z hz
  obtain ⟨i, hi, rfl⟩ := List.getElem_of_mem hz
  rw [List.length_drop] at hi
  rw [List.getElem_drop]
  exact h (k + i) (by omega) (by omega)
theorem split_at {R : List α} {k : Nat} (h : k < R.length) : ∃ A C, R = A ++ R[k] :: C ∧ A.length = k := by
  refine ⟨R.take k, R.drop (k + 1), ?_, by rw [List.length_take]; omega⟩
  rw [← List.drop_eq_getElem_cons h, List.take_append_drop]
theorem merged_left {y : α} {R : List α} {k : Nat} (hR : R.Pairwise lt) (h1 : ∀ z ∈ R.take k, lt z y) (h2 : ∀ z ∈ R.drop k, lt y z) : Merged lt [y] R (R.take k ++ y :: R.drop k) := by
  refine ⟨?_, put_in (by rw [List.take_append_drop]; exact hR) h1 h2⟩
  refine put_perm.trans ?_
  rw [List.take_append_drop]
  exact .refl _
theorem merged_right {x : α} {L : List α} {k : Nat} (hL : L.Pairwise lt) (h1 : ∀ z ∈ L.take k, lt z x) (h2 : ∀ z ∈ L.drop k, lt x z) : Merged lt L [x] (L.take k ++ x :: L.drop k) := by
  refine ⟨?_, put_in (by rw [List.take_append_drop]; exact hL) h1 h2⟩
  refine put_perm.trans ?_
  rw [List.take_append_drop]
  exact (List.perm_append_singleton x L).symm
end
end Go.Proofs.Ytbojlgbkkdnegaa

-- The worlds of a sort, told over lists of tags.
namespace Go.Proofs.Ytbojlgbkkdnegaa
open Go.Shelf Go.RowKit Go.Lib Go.Sort
/-- the order as the comparison tells it, where the second tag lies behind the first -/
def OkC (lt : Nat → Nat → Prop) (cf : Nat → Nat → Int) (y x : Nat) : Prop := (cf x y < 0 → lt x y) ∧ (¬ cf x y < 0 → lt y x)
/-- what a sort is given -/
structure SortIn (enc : Nat → Value) (cf : Nat → Nat → Int) (lt : Nat → Nat → Prop) (g : Nat) (cb : Array Value) (blk off n : Nat) (d0 : Array Nat) (w0 : World) : Prop where
  eg : ∀ args w, (callFunc g args).run Try.prog w = .ok (.enter g args) w
  cmp : CmpLays1 Try.prog g cb enc cf blk off n w0
  row : Row1 enc w0 blk off d0
  len : d0.size = n
  tr : ∀ x y z, lt x y → lt y z → lt x z
  top : n < 1099511627776
/-- the row holds these tags -/
def SL (enc : Nat → Value) (w0 : World) (blk off : Nat) (l : List Nat) (W : World) : Prop := SW enc w0 blk off l.toArray W
theorem mixedT : Try.prog.follows .mixedOrders = true := by kernel_rfl
section
variable {enc : Nat → Value} {cf : Nat → Nat → Int} {lt : Nat → Nat → Prop} {g : Nat} {cb : Array Value} {blk off n : Nat} {d0 : Array Nat} {w0 W : World} {l : List Nat}
theorem get_at {A C : List Nat} {x i : Nat} (h : l = A ++ x :: C) (hi : i = A.length) : l.toArray[i]! = x ∧ i < l.toArray.size := by
  subst h hi
  simp
theorem swp_at {A B C : List Nat} {x y i j : Nat} (h : l = A ++ y :: (B ++ x :: C)) (hi : i = A.length) (hj : j = A.length + 1 + B.length) :
    swp l.toArray i j = (A ++ x :: (B ++ y :: C)).toArray ∧ swp l.toArray j i = (A ++ x :: (B ++ y :: C)).toArray := by
  have h1 := (get_at h hi).1
  have h2 : l.toArray[j]! = x := (get_at (l := l) (A := A ++ y :: B) (C := C) (by rw [h]; simp) (by rw [hj]; simp; omega)).1
  have key : ((A ++ y :: (B ++ x :: C)).set i x).set j y = A ++ x :: (B ++ y :: C) ∧ ((A ++ y :: (B ++ x :: C)).set j y).set i x = A ++ x :: (B ++ y :: C) := by
    subst hi hj
    constructor
    · rw [List.set_append_right _ _ (Nat.le_refl _), Nat.sub_self, List.set_cons_zero, List.set_append_right _ _ (by omega), show A.length + 1 + B.length - A.length = B.length + 1 by omega, List.set_cons_succ, List.set_append_right _ _ (Nat.le_refl _), Nat.sub_self, List.set_cons_zero]
    · rw [List.set_append_right _ _ (by omega), show A.length + 1 + B.length - A.length = B.length + 1 by omega, List.set_cons_succ, List.set_append_right _ _ (Nat.le_refl _), Nat.sub_self, List.set_cons_zero, List.set_append_right _ _ (Nat.le_refl _), Nat.sub_self, List.set_cons_zero]
  unfold swp
  rw [h1, h2, h]
  constructor
  · rw [List.setIfInBounds_toArray, List.setIfInBounds_toArray, key.1]
  · rw [List.setIfInBounds_toArray, List.setIfInBounds_toArray, key.2]
theorem SL.grown (h : SL enc w0 blk off l W) (m : Nat) (os : Array Obj) : SL enc w0 blk off l (grow (W.drewN m) os) := SW.grown h m os
theorem SL.cl (h : SL enc w0 blk off l W) (H : SortIn enc cf lt g cb blk off n d0 w0) (hl : l.length = n) {A C : List Nat} {x i : Nat} (e : l = A ++ x :: C) (hi : i = A.length) (m : Nat) (os : Array Obj) : (grow (W.drewN m) os).cell? ⟨blk, off + i, none⟩ = some (enc x) := by
  have hg := get_at e hi
  have := SW.cl h H.row (by rw [H.len]; simpa using hl) i hg.2 m os
  rw [hg.1] at this
  exact this
theorem SL.c1 (h : SL enc w0 blk off l W) (H : SortIn enc cf lt g cb blk off n d0 w0) (hl : l.length = n) {A C : List Nat} {x i : Nat} (e : l = A ++ x :: C) (hi : i = A.length) : W.cell? ⟨blk, off + i, none⟩ = some (enc x) ∧ W.frozen? ⟨blk, off + i, none⟩ = false := by
  have hg := get_at e hi
  have := SW.c1 h H.row (by rw [H.len]; simpa using hl) i hg.2
  rw [hg.1] at this
  exact ⟨this, SW.f1 h H.row (by rw [H.len]; simpa using hl) i hg.2⟩
theorem SL.c2 (h : SL enc w0 blk off l W) (H : SortIn enc cf lt g cb blk off n d0 w0) (hl : l.length = n) (i j : Nat) (hi : i < n) (hj : j < n) (v : Value) : ∃ u, (W.setCell ⟨blk, off + i, none⟩ v).cell? ⟨blk, off + j, none⟩ = some u :=
  SW.c2 h H.row (by rw [H.len]; simpa using hl) i j (by simp; omega) (by simp; omega) v
theorem SL.cmp (h : SL enc w0 blk off l W) (H : SortIn enc cf lt g cb blk off n d0 w0) (hl : l.length = n) (x y : Nat) (m : Nat) (os : Array Obj) :
    Calls Try.prog g (#[enc x, enc y] ++ cb) (grow (W.drewN m) os) fun e w' => e = .returned (.int .i64 (cf x y)) ∧ ∃ q os', w' = grow ((grow (W.drewN m) os).drewN q) os' :=
  SW.cmp h H.cmp (by simpa using hl) x y m os
/-- an exchange of two places, the store ahead into the left one -/
theorem SL.swapL (h : SL enc w0 blk off l W) (H : SortIn enc cf lt g cb blk off n d0 w0) {A B C : List Nat} {x y i j : Nat} (e : l = A ++ y :: (B ++ x :: C)) (hi : i = A.length) (hj : j = A.length + 1 + B.length) :
    SL enc w0 blk off (A ++ x :: (B ++ y :: C)) ((W.setCell ⟨blk, off + i, none⟩ (enc x)).setCell ⟨blk, off + j, none⟩ (enc y)).drew := by
  have h1 := get_at e hi
  have h2 := get_at (l := l) (A := A ++ y :: B) (C := C) (i := j) (x := x) (by rw [e]; simp) (by rw [hj]; simp; omega)
  have := SW.swapped h H.row i j h1.2 h2.2
  rw [h1.1, h2.1, (swp_at e hi hj).1] at this
  exact this
/-- .. into the right one -/
theorem SL.swapR (h : SL enc w0 blk off l W) (H : SortIn enc cf lt g cb blk off n d0 w0) {A B C : List Nat} {x y i j : Nat} (e : l = A ++ y :: (B ++ x :: C)) (hi : i = A.length) (hj : j = A.length + 1 + B.length) :
    SL enc w0 blk off (A ++ x :: (B ++ y :: C)) ((W.setCell ⟨blk, off + j, none⟩ (enc y)).setCell ⟨blk, off + i, none⟩ (enc x)).drew := by
  have h1 := get_at e hi
  have h2 := get_at (l := l) (A := A ++ y :: B) (C := C) (i := j) (x := x) (by rw [e]; simp) (by rw [hj]; simp; omega)
  have := SW.swapped h H.row j i h2.2 h1.2
  rw [h1.1, h2.1, (swp_at e hi hj).2] at this
  exact this
end
end Go.Proofs.Ytbojlgbkkdnegaa

-- How finite float32s stand to one another; the orders of places by their numbers; comparisons.
namespace Go.Proofs.Ytbojlgbkkdnegaa
open Ieee Go.RowKit
/-- a finite number in units of 2 ^ -149 -/
def keyF (x : Nat) : Int := match FloatKind.f32.format.read x with | .number s m p => signed s m (p + 149).toNat | _ => 0
theorem signed_scale (s : Bool) (m a b : Nat) : signed s m (a + b) = signed s m a * (2 ^ b : Nat) := by
  unfold signed
  rw [Nat.shiftLeft_eq, Nat.shiftLeft_eq, Nat.pow_add, ← Nat.mul_assoc]
  cases s <;> simp [Int.neg_mul]
theorem compare_scale (u v : Int) {c : Int} (hc : 0 < c) : compare (u * c) (v * c) = compare u v := by
  rcases Int.lt_trichotomy u v with h | h | h
  · rw [Int.compare_eq_lt.2 h, Int.compare_eq_lt.2 (Int.mul_lt_mul_of_pos_right h hc)]
  · subst h; rw [Int.compare_eq_eq.2 rfl, Int.compare_eq_eq.2 rfl]
  · rw [Int.compare_eq_gt.2 h, Int.compare_eq_gt.2 (Int.mul_lt_mul_of_pos_right h hc)]
theorem order_key {x y : Nat} (hx : finB x = true) (hy : finB y = true) : FloatKind.f32.format.order x y = some (compare (keyF x) (keyF y)) := by
  obtain ⟨s, m, p, h1⟩ := fin_read hx
  obtain ⟨t, n, q, h2⟩ := fin_read hy
  have hp := read_place h1
  have hq := read_place h2
  unfold keyF
  rw [h1, h2]
  dsimp only
  unfold Format.order
  rw [h1, h2]
  unfold Datum.order
  dsimp only
  obtain ⟨base, hb⟩ : ∃ base, base = min p q := ⟨_, rfl⟩
  rw [← hb, show (p + 149).toNat = (p - base).toNat + (base + 149).toNat by omega, show (q + 149).toNat = (q - base).toNat + (base + 149).toNat by omega, signed_scale, signed_scale, compare_scale _ _ (by have := Nat.two_pow_pos (base + 149).toNat; omega)]
def cmpN (a b : Nat) : Int := if (FloatKind.f32.format.order a b == some .lt) = true then -1 else if (FloatKind.f32.format.order a b == some .gt) = true then 1 else 0
theorem cmpN_lt {a b : Nat} (ha : finB a = true) (hb : finB b = true) : cmpN a b < 0 ↔ keyF a < keyF b := by
  unfold cmpN
  rw [order_key ha hb]
  rcases Int.lt_trichotomy (keyF a) (keyF b) with h | h | h
  · rw [Int.compare_eq_lt.2 h]
    simp [h]
  · rw [Int.compare_eq_eq.2 h]
    simp [h]
  · rw [Int.compare_eq_gt.2 h]
    simp
    omega
theorem cmpN_gt {a b : Nat} (ha : finB a = true) (hb : finB b = true) : (FloatKind.f32.format.order a b == some .gt) = decide (keyF b < keyF a) := by
  rw [order_key ha hb]
  rcases Int.lt_trichotomy (keyF a) (keyF b) with h | h | h
  · rw [Int.compare_eq_lt.2 h, decide_eq_false (by omega)]; rfl
  · rw [Int.compare_eq_eq.2 h, decide_eq_false (by omega)]; rfl
  · rw [Int.compare_eq_gt.2 h, decide_eq_true h]; rfl
theorem cmpN_lt' {a b : Nat} (ha : finB a = true) (hb : finB b = true) : (FloatKind.f32.format.order a b == some .lt) = decide (keyF a < keyF b) := by
  rw [order_key ha hb]
  rcases Int.lt_trichotomy (keyF a) (keyF b) with h | h | h
  · rw [Int.compare_eq_lt.2 h, decide_eq_true h]; rfl
  · rw [Int.compare_eq_eq.2 h, decide_eq_false (by omega)]; rfl
  · rw [Int.compare_eq_gt.2 h, decide_eq_false (by omega)]; rfl
set_option maxHeartbeats 1000000 in
theorem compareNumbers_any (a b : Nat) (w : World) : Calls Try.prog 34 #[.float .f32 a, .float .f32 b] w fun e w' => e = .returned (.int .i64 (cmpN a b)) ∧ w' = w := by
  cases h1 : (FloatKind.f32.format.order a b == some .lt)
  · cases h2 : (FloatKind.f32.format.order a b == some .gt)
    · have HR : Hid (cmpN a b = 0) := Lib.hid (by unfold cmpN; rw [h1, h2]; rfl)
      go_enter Try.func34, Try.ntmps34
      go_wp2
      go_ret
      exact ⟨by rw [HR.out]; rfl, rfl⟩
    · have HR : Hid (cmpN a b = 1) := Lib.hid (by unfold cmpN; rw [h1, h2]; rfl)
      go_enter Try.func34, Try.ntmps34
      go_wp2
      go_ret
      exact ⟨by rw [HR.out]; rfl, rfl⟩
  · have HR : Hid (cmpN a b = -1) := Lib.hid (by unfold cmpN; rw [h1]; rfl)
    go_enter Try.func34, Try.ntmps34
    go_wp2
    go_ret
    exact ⟨by rw [HR.out]; rfl, rfl⟩
/-- the key of a place -/
def keyAt (xs : List Nat) (i : Nat) : Int := keyF (xs.getD i 0)
/-- downwards, then by the place -/
def ltD (xs : List Nat) (i j : Nat) : Prop := keyAt xs j < keyAt xs i ∨ (keyAt xs i = keyAt xs j ∧ i < j)
/-- upwards, then by the place -/
def ltA (xs : List Nat) (i j : Nat) : Prop := keyAt xs i < keyAt xs j ∨ (keyAt xs i = keyAt xs j ∧ i < j)
theorem ltD_tr (xs : List Nat) : ∀ x y z, ltD xs x y → ltD xs y z → ltD xs x z := by
  intro x y z h1 h2
  unfold ltD at *
  omega
theorem ltA_tr (xs : List Nat) : ∀ x y z, ltA xs x y → ltA xs y z → ltA xs x z := by
  intro x y z h1 h2
  unfold ltA at *
  omega
theorem ltD_as (xs : List Nat) : ∀ x y, ltD xs x y → ltD xs y x → False := by
  intro x y h1 h2
  unfold ltD at *
  omega
theorem ltA_as (xs : List Nat) : ∀ x y, ltA xs x y → ltA xs y x → False := by
  intro x y h1 h2
  unfold ltA at *
  omega
open Classical in
/-- the one list in order -/
noncomputable def sortedOf (lt : Nat → Nat → Prop) (ts : List Nat) : List Nat := if h : ∃ M : List Nat, M.Perm ts ∧ M.Pairwise lt then Classical.choose h else []
theorem sortedOf_eq {lt : Nat → Nat → Prop} (hasy : ∀ x y, lt x y → lt y x → False) {ts M : List Nat} (h1 : M.Perm ts) (h2 : M.Pairwise lt) : sortedOf lt ts = M := by
  unfold sortedOf
  rw [dif_pos ⟨M, h1, h2⟩]
  have h := Classical.choose_spec (⟨M, h1, h2⟩ : ∃ M : List Nat, M.Perm ts ∧ M.Pairwise lt)
  exact sorted_eq hasy h.2 h2 (h.1.trans h1.symm)
theorem fin_get {xs : List Nat} (h : ∀ x ∈ xs, finB x = true) (i : Nat) : finB (xs.getD i 0) = true := by
  rcases Nat.lt_or_ge i xs.length with hi | hi
  · rw [List.getD_eq_getElem?_getD, List.getElem?_eq_getElem hi]
    exact h _ (List.getElem_mem hi)
  · rw [List.getD_eq_getElem?_getD, List.getElem?_eq_none hi]
    decide
theorem range_lt (n : Nat) : (List.range n).Pairwise (· < ·) := List.pairwise_lt_range
/-- a cell of another block, in a world of the sort -/
theorem sw_cell {enc : Nat → Value} {w : World} {blk off m : Nat} {dk : Array Nat} {os : Array Obj} {a : Addr} (h1 : a.block < w.heap.size) (h2 : a.block ≠ blk) : (sortWorld enc w blk off m dk os).cell? a = w.cell? a := by
  unfold sortWorld
  rw [Go.Sort.cell?_grow _ _ _ (by rw [size_putRow]; exact h1), Go.Sort.cell?_putRow_other enc _ blk off _ _ (Or.inl h2)]
  rfl
end Go.Proofs.Ytbojlgbkkdnegaa
