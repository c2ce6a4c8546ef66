/- Fields that grow at their edge: plain lists, and small laws of their rows. -/
import Derived.Test.YtbefcfdmaafghaaTouch
import Derived.Test.YtbefcfdmaafghaaFlip
import Derived.Test.YtbefcfdmaafghaaDrawn
namespace Go.Proofs.Ytbefcfdmaafghaa
open Go.RowKit
/-- the first k cells' edge -/
def edgeK (wd hg : Int) (bs : List Bool) : Nat → List Int
  | 0 => []
  | k + 1 => edgeK wd hg bs k ++ if full bs k = false ∧ touchB wd hg bs k = true then [(k : Int)] else []
theorem edgeK_yes {wd hg : Int} {bs : List Bool} {k : Nat} (h : full bs k = false) (h' : touchB wd hg bs k = true) : edgeK wd hg bs (k + 1) = edgeK wd hg bs k ++ [(k : Int)] := by
  show edgeK wd hg bs k ++ _ = _
  rw [if_pos ⟨h, h'⟩]
theorem edgeK_no {wd hg : Int} {bs : List Bool} {k : Nat} (h : full bs k = true ∨ touchB wd hg bs k = false) : edgeK wd hg bs (k + 1) = edgeK wd hg bs k := by
  show edgeK wd hg bs k ++ _ = _
  rw [if_neg (by rintro ⟨h1, h2⟩; rcases h with h | h <;> simp_all), List.append_nil]
theorem edgeK_len (wd hg : Int) (bs : List Bool) (k : Nat) : (edgeK wd hg bs k).length ≤ k := by
  induction k with
  | zero => simp [edgeK]
  | succ k ih => simp only [edgeK, List.length_append]; split <;> simp <;> omega
theorem edgeK_bd (wd hg : Int) (bs : List Bool) (k : Nat) : ∀ x ∈ edgeK wd hg bs k, 0 ≤ x ∧ x < k := by
  induction k with
  | zero => intro x hx; simp [edgeK] at hx
  | succ k ih =>
    intro x hx
    simp only [edgeK, List.mem_append] at hx
    rcases hx with hx | hx
    · have := ih x hx; omega
    · split at hx
      · simp at hx; omega
      · simp at hx
/-- what one round picks -/
def pick (l : List Int) (sd : Int) : Int := l.getD (drw sd l.length).toNat 0
theorem pick_at {l : List Int} {sd : Int} (h : l ≠ []) : ∃ hk : (drw sd l.length).toNat < l.length, pick l sd = l[(drw sd l.length).toNat]'hk := by
  have hp := List.length_pos_iff.2 h
  obtain ⟨d0, d1⟩ := drw_bd (s := sd) (n := l.length) (by omega)
  have hk : (drw sd l.length).toNat < l.length := by omega
  exact ⟨hk, by simp [pick, List.getD, hk]⟩
/-- count rounds -/
def growN (wd hg : Int) : Nat → List Bool → Int → Option (List Bool × Int)
  | 0, bs, sd => some (bs, sd)
  | c + 1, bs, sd => if edgeK wd hg bs bs.length = [] then none else growN wd hg c (bs.set (pick (edgeK wd hg bs bs.length) sd).toNat true) (nxt sd)
theorem growN_stop {wd hg : Int} {c : Nat} {bs : List Bool} {sd : Int} (hc : 0 < c) (h : edgeK wd hg bs bs.length = []) : growN wd hg c bs sd = none := by
  obtain ⟨d, rfl⟩ : ∃ d, c = d + 1 := ⟨c - 1, by omega⟩
  simp [growN, h]
theorem growN_step {wd hg : Int} {c : Nat} {bs : List Bool} {sd : Int} (hc : 0 < c) (h : edgeK wd hg bs bs.length ≠ []) : growN wd hg c bs sd = growN wd hg (c - 1) (bs.set (pick (edgeK wd hg bs bs.length) sd).toNat true) (nxt sd) := by
  obtain ⟨d, rfl⟩ : ∃ d, c = d + 1 := ⟨c - 1, by omega⟩
  rw [Nat.add_sub_cancel]
  conv => lhs; unfold growN
  rw [if_neg h]
theorem growN_len (wd hg : Int) (c : Nat) : ∀ (bs : List Bool) (sd : Int) (r : List Bool × Int), growN wd hg c bs sd = some r → r.1.length = bs.length := by
  induction c with
  | zero => intro bs sd r h; simp [growN] at h; rw [← h]
  | succ c ih =>
    intro bs sd r h
    unfold growN at h
    split at h
    · cases h
    · have := ih _ _ r h
      rw [this, List.length_set]
/-- what GrowEdge gives -/
def GivesGrow (B : Nat) (wd hg : Int) (r : Option (List Bool × Int)) (e : Ending) (w' : World) : Prop :=
  match r with
  | some (b, s) => GivesFIB B wd hg b s true e w'
  | none => GivesFIB B 0 0 [] 0 false e w'
theorem gives_some {B : Nat} {wd hg : Int} {r : Option (List Bool × Int)} {b : List Bool} {s : Int} {e : Ending} {w' : World} (h : r = some (b, s)) (hg' : GivesFIB B wd hg b s true e w') : GivesGrow B wd hg r e w' := by rw [h]; exact hg'
theorem gives_none {B : Nat} {wd hg : Int} {r : Option (List Bool × Int)} {e : Ending} {w' : World} (h : r = none) (hg' : GivesFIB B 0 0 [] 0 false e w') : GivesGrow B wd hg r e w' := by rw [h]; exact hg'
/-- a store of true into the row -/
theorem set_stored {w w' : World} {B g n cp : Nat} {bs : List Bool} {x : Int} (ho : w'.ownsRow B 4 1 (.slice (some ⟨g, 0, none⟩) n cp) n (bs.map Value.bool)) (hg : w.grownBy w' (some g)) :
    (w'.setCell ⟨g, x.toNat, none⟩ (.bool true)).ownsRow B 4 1 (.slice (some ⟨g, 0, none⟩) n cp) n ((bs.set x.toNat true).map Value.bool) ∧ w.grownBy (w'.setCell ⟨g, x.toNat, none⟩ (.bool true)) (some g) := by
  have hs := ho.stored x.toNat (.bool true)
  refine ⟨?_, World.grownBy.trans' hg hs.2⟩
  have h1 := hs.1
  rw [← List.map_set] at h1
  exact h1
end Go.Proofs.Ytbefcfdmaafghaa
