/- The worlds of a sort, told over lists of tags. -/
import Derived.Test.YtcpimcjmckljfaaSort
import Derived.Test.YtcpimcjmckljfaaSmall
import Derived.Shelf.SlSortCmp.Kit1
import Derived.Sort.WalkA
import Derived.Sort.WalkB2
import Derived.Sort.WalkB12
namespace Go.Proofs.Ytcpimcjmckljfaa
open Go.Shelf Go.RowKit Go.Lib Go.Sort
/-- the order as the comparison tells it, where the second tag lies behind the first -/
def OkC (lt : Nat → Nat → Prop) (cf : Nat → Nat → Int) (y x : Nat) : Prop := (cf x y < 0 → lt x y) ∧ (¬ cf x y < 0 → lt y x)
/-- what a sort is given -/
structure SortIn (enc : Nat → Value) (cf : Nat → Nat → Int) (lt : Nat → Nat → Prop) (g : Nat) (cb : Array Value) (blk off n : Nat) (d0 : Array Nat) (w0 : World) : Prop where
  eg : ∀ args w, (callFunc g args).run Try.prog w = .ok (.enter g args) w
  cmp : CmpLays1 Try.prog g cb enc cf blk off n w0
  row : Row1 enc w0 blk off d0
  len : d0.size = n
  tr : ∀ x y z, lt x y → lt y z → lt x z
  top : n < 1099511627776
/-- the row holds these tags -/
def SL (enc : Nat → Value) (w0 : World) (blk off : Nat) (l : List Nat) (W : World) : Prop := SW enc w0 blk off l.toArray W
theorem mixedT : Try.prog.follows .mixedOrders = true := by kernel_rfl
section
variable {enc : Nat → Value} {cf : Nat → Nat → Int} {lt : Nat → Nat → Prop} {g : Nat} {cb : Array Value} {blk off n : Nat} {d0 : Array Nat} {w0 W : World} {l : List Nat}
theorem get_at {A C : List Nat} {x i : Nat} (h : l = A ++ x :: C) (hi : i = A.length) : l.toArray[i]! = x ∧ i < l.toArray.size := by
  subst h hi
  simp
theorem swp_at {A B C : List Nat} {x y i j : Nat} (h : l = A ++ y :: (B ++ x :: C)) (hi : i = A.length) (hj : j = A.length + 1 + B.length) :
    swp l.toArray i j = (A ++ x :: (B ++ y :: C)).toArray ∧ swp l.toArray j i = (A ++ x :: (B ++ y :: C)).toArray := by
  have h1 := (get_at h hi).1
  have h2 : l.toArray[j]! = x := (get_at (l := l) (A := A ++ y :: B) (C := C) (by rw [h]; simp) (by rw [hj]; simp; omega)).1
  have key : ((A ++ y :: (B ++ x :: C)).set i x).set j y = A ++ x :: (B ++ y :: C) ∧ ((A ++ y :: (B ++ x :: C)).set j y).set i x = A ++ x :: (B ++ y :: C) := by
    subst hi hj
    constructor
    · rw [List.set_append_right _ _ (Nat.le_refl _), Nat.sub_self, List.set_cons_zero, List.set_append_right _ _ (by omega), show A.length + 1 + B.length - A.length = B.length + 1 by omega, List.set_cons_succ, List.set_append_right _ _ (Nat.le_refl _), Nat.sub_self, List.set_cons_zero]
    · rw [List.set_append_right _ _ (by omega), show A.length + 1 + B.length - A.length = B.length + 1 by omega, List.set_cons_succ, List.set_append_right _ _ (Nat.le_refl _), Nat.sub_self, List.set_cons_zero, List.set_append_right _ _ (Nat.le_refl _), Nat.sub_self, List.set_cons_zero]
  unfold swp
  rw [h1, h2, h]
  constructor
  · rw [List.setIfInBounds_toArray, List.setIfInBounds_toArray, key.1]
  · rw [List.setIfInBounds_toArray, List.setIfInBounds_toArray, key.2]
theorem SL.grown (h : SL enc w0 blk off l W) (m : Nat) (os : Array Obj) : SL enc w0 blk off l (grow (W.drewN m) os) := SW.grown h m os
theorem SL.cl (h : SL enc w0 blk off l W) (H : SortIn enc cf lt g cb blk off n d0 w0) (hl : l.length = n) {A C : List Nat} {x i : Nat} (e : l = A ++ x :: C) (hi : i = A.length) (m : Nat) (os : Array Obj) : (grow (W.drewN m) os).cell? ⟨blk, off + i, none⟩ = some (enc x) := by
  have hg := get_at e hi
  have := SW.cl h H.row (by rw [H.len]; simpa using hl) i hg.2 m os
  rw [hg.1] at this
  exact this
theorem SL.c1 (h : SL enc w0 blk off l W) (H : SortIn enc cf lt g cb blk off n d0 w0) (hl : l.length = n) {A C : List Nat} {x i : Nat} (e : l = A ++ x :: C) (hi : i = A.length) : W.cell? ⟨blk, off + i, none⟩ = some (enc x) ∧ W.frozen? ⟨blk, off + i, none⟩ = false := by
  have hg := get_at e hi
  have := SW.c1 h H.row (by rw [H.len]; simpa using hl) i hg.2
  rw [hg.1] at this
  exact ⟨this, SW.f1 h H.row (by rw [H.len]; simpa using hl) i hg.2⟩
theorem SL.c2 (h : SL enc w0 blk off l W) (H : SortIn enc cf lt g cb blk off n d0 w0) (hl : l.length = n) (i j : Nat) (hi : i < n) (hj : j < n) (v : Value) : ∃ u, (W.setCell ⟨blk, off + i, none⟩ v).cell? ⟨blk, off + j, none⟩ = some u :=
  SW.c2 h H.row (by rw [H.len]; simpa using hl) i j (by simp; omega) (by simp; omega) v
theorem SL.cmp (h : SL enc w0 blk off l W) (H : SortIn enc cf lt g cb blk off n d0 w0) (hl : l.length = n) (x y : Nat) (m : Nat) (os : Array Obj) :
    Calls Try.prog g (#[enc x, enc y] ++ cb) (grow (W.drewN m) os) fun e w' => e = .returned (.int .i64 (cf x y)) ∧ ∃ q os', w' = grow ((grow (W.drewN m) os).drewN q) os' :=
  SW.cmp h H.cmp (by simpa using hl) x y m os
/-- an exchange of two places, the store ahead into the left one -/
theorem SL.swapL (h : SL enc w0 blk off l W) (H : SortIn enc cf lt g cb blk off n d0 w0) {A B C : List Nat} {x y i j : Nat} (e : l = A ++ y :: (B ++ x :: C)) (hi : i = A.length) (hj : j = A.length + 1 + B.length) :
    SL enc w0 blk off (A ++ x :: (B ++ y :: C)) ((W.setCell ⟨blk, off + i, none⟩ (enc x)).setCell ⟨blk, off + j, none⟩ (enc y)).drew := by
  have h1 := get_at e hi
  have h2 := get_at (l := l) (A := A ++ y :: B) (C := C) (i := j) (x := x) (by rw [e]; simp) (by rw [hj]; simp; omega)
  have := SW.swapped h H.row i j h1.2 h2.2
  rw [h1.1, h2.1, (swp_at e hi hj).1] at this
  exact this
/-- .. into the right one -/
theorem SL.swapR (h : SL enc w0 blk off l W) (H : SortIn enc cf lt g cb blk off n d0 w0) {A B C : List Nat} {x y i j : Nat} (e : l = A ++ y :: (B ++ x :: C)) (hi : i = A.length) (hj : j = A.length + 1 + B.length) :
    SL enc w0 blk off (A ++ x :: (B ++ y :: C)) ((W.setCell ⟨blk, off + j, none⟩ (enc y)).setCell ⟨blk, off + i, none⟩ (enc x)).drew := by
  have h1 := get_at e hi
  have h2 := get_at (l := l) (A := A ++ y :: B) (C := C) (i := j) (x := x) (by rw [e]; simp) (by rw [hj]; simp; omega)
  have := SW.swapped h H.row j i h2.2 h1.2
  rw [h1.1, h2.1, (swp_at e hi hj).2] at this
  exact this
end
end Go.Proofs.Ytcpimcjmckljfaa
