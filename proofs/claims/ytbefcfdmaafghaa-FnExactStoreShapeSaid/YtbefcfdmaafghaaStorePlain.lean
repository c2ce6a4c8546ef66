/- A shape as bytes: plain lists. -/
import Derived.Test.YtbefcfdmaafghaaTwo
import Derived.Test.YtbefcfdmaafghaaShape
import Derived.Lib.AppendStr
namespace Go.Proofs.Ytbefcfdmaafghaa
open Go.RowKit
/-- the bytes of a text, as numbers of the program -/
def bytesI (s : ByteArray) : List Int := (bytesN s).map fun n : Nat => (n : Int)
/-- all but the check number -/
def storeB (nm : ByteArray) (wd hg : Int) (bs : List Bool) : List Int :=
  [83, 72, 80, 49] ++ [(nm.size : Int)] ++ bytesI nm ++ [wd, hg] ++ two (packL bs).length ++ packL bs
/-- the whole -/
def storeT (nm : ByteArray) (wd hg : Int) (bs : List Bool) : ByteArray :=
  strOfNums (storeB nm wd hg bs ++ two (chk (bytesN (strOfNums (storeB nm wd hg bs)))))
theorem strCells_bytesI (s : ByteArray) : Lib.strCells s = (bytesI s).map (Value.int .u8) := by
  simp [Lib.strCells, bytesI, bytesN, List.map_map]
theorem bytesI_len (s : ByteArray) : (bytesI s).length = s.size := by simp [bytesI, bytesN_len]
/-- an owned row is nil or lies in a row -/
theorem own_shape {w : World} {base : Nat} {e : TypeId} {size : Nat} {v : Value} {n : Nat} {xs : List Value} (h : w.ownsRow base e size v n xs) : ∃ A c, v = .slice A n c := by
  rcases h.2 with ⟨rfl, rfl⟩ | ⟨g, cap, cur, rfl, _⟩
  · exact ⟨_, _, rfl⟩
  · exact ⟨_, _, rfl⟩
theorem own_some {w : World} {base : Nat} {e : TypeId} {size : Nat} {v : Value} {n : Nat} {xs : List Value} (h : w.ownsRow base e size v n xs) (hn : 0 < n) : ∃ g c, v = .slice (some ⟨g, 0, none⟩) n c := by
  rcases h.2 with ⟨rfl, rfl⟩ | ⟨g, cap, cur, rfl, _⟩
  · omega
  · exact ⟨_, _, rfl⟩
theorem own_str {w : World} {B : Nat} {v : Value} {acc : List Int} {s : ByteArray} (h : w.ownsRow B 5 1 v (acc.length + s.size) (acc.map (Value.int .u8) ++ Lib.strCells s)) :
    w.ownsRow B 5 1 v (acc ++ bytesI s).length ((acc ++ bytesI s).map (Value.int .u8)) := by
  rw [strCells_bytesI] at h
  exact own_app (bytesI_len s).symm h
theorem packL_pos {bs : List Bool} (h : bs ≠ []) : 0 < (packL bs).length := by
  rw [packL_eq, packR_step h, List.length_append]
  have := (runB_len (lead false bs)).2
  omega
theorem packL_len {bs : List Bool} (h : bs.length ≤ 256) : (packL bs).length ≤ 1026 := by
  have := packF_len (2 * bs.length + 1) false bs
  unfold packL; omega
theorem one_u8 (l : List Int) : ∀ u ∈ l.map (Value.int .u8), u.oneCell' = true := by
  intro u hu
  rw [List.mem_map] at hu
  obtain ⟨x, _, rfl⟩ := hu
  rfl
theorem new_cell (w : World) (t : TypeId) (f : Nat × Nat) (C : Array Value) (B j : Nat) (hB : B = w.heap.size) : (w.alloc (.cells C t f)).cell? ⟨B, j, none⟩ = C[j]? := by
  subst hB
  exact World.cell?_alloc_mark w C t f j
end Go.Proofs.Ytbefcfdmaafghaa
