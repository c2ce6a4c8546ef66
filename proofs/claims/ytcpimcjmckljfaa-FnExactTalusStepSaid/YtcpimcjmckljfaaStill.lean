/- Operations on finite numbers that give no NaN. -/
import Derived.Test.YtcpimcjmckljfaaNums
namespace Go.Proofs.Ytcpimcjmckljfaa
open Ieee Go.RowKit
theorem rung_num (f : Format) (s : Bool) {r : Nat} (h : r ≤ f.infRung) : (f.read (f.word s r)).isNaN = false := by
  rw [read_word f s (Nat.lt_of_le_of_lt h f.infRung_lt)]
  split
  · rfl
  · split
    · rfl
    · rw [if_pos (by omega)]; rfl
theorem nearest_num (f : Format) (s : Bool) (m : Nat) (p : Int) : (f.read (f.nearest s m p)).isNaN = false := by
  unfold Format.nearest
  split
  · exact rung_num f s (Nat.zero_le _)
  · exact rung_num f s (Nat.min_le_right _ _)
theorem write_num (f : Format) {d : Datum} (h : d.isNaN = false) : (f.read (f.write d)).isNaN = false := by
  cases d with
  | nan s t => cases h
  | infinity s => exact rung_num f s (Nat.le_refl _)
  | number s m p => exact nearest_num f s m p
theorem num_read {k : FloatKind} {x : Nat} (h : nanF k x = false) : (∃ s, k.format.read x = .infinity s) ∨ ∃ s m p, k.format.read x = .number s m p := by
  unfold nanF at h
  cases hd : k.format.read x with
  | nan s t => rw [hd] at h; cases h
  | infinity s => exact .inl ⟨s, rfl⟩
  | number s m p => exact .inr ⟨s, m, p, rfl⟩
theorem fin_read {x : Nat} (h : finB x = true) : ∃ s m p, FloatKind.f32.format.read x = .number s m p := by
  rcases num_read (fin_num h) with ⟨s, h1⟩ | h1
  · exfalso
    have : floatBits .sub .f32 x x = none := by
      unfold floatBits
      show Option.map _ _ = none
      rw [h1]
      cases s <;> rfl
    rw [finB_none this] at h
    cases h
  · exact h1
theorem op_some {op : BinOp} {k : FloatKind} {x y : Nat} {d : Datum} (h : floatBits op k x y = some (k.format.write d)) (hd : d.isNaN = false) : floatBits op k x y = some (fop op k x y) ∧ nanF k (fop op k x y) = false := by
  rw [fop_some h]
  exact ⟨h, write_num _ hd⟩
theorem mul_num {x y : Nat} (hx : finB x = true) (hy : finB y = true) : floatBits .mul .f32 x y = some (fop .mul .f32 x y) ∧ nanF .f32 (fop .mul .f32 x y) = false := by
  obtain ⟨s, m, p, h1⟩ := fin_read hx
  obtain ⟨t, n, q, h2⟩ := fin_read hy
  refine op_some (d := .number (s ^^ t) (m * n) (p + q)) ?_ rfl
  unfold floatBits Format.mul
  dsimp only
  rw [h1, h2]
  rfl
theorem sum_num {d e : Datum} (h1 : d.isNaN = false) (h2 : ∃ s m p, e = .number s m p) : ∃ r, d.sum e = some r ∧ r.isNaN = false := by
  obtain ⟨t, n, q, rfl⟩ := h2
  cases d with
  | nan s t => cases h1
  | infinity s => exact ⟨_, rfl, rfl⟩
  | number s m p => exact ⟨_, rfl, rfl⟩
theorem add_num {x y : Nat} (hx : nanF .f32 x = false) (hy : finB y = true) : floatBits .add .f32 x y = some (fop .add .f32 x y) ∧ nanF .f32 (fop .add .f32 x y) = false := by
  obtain ⟨r, h1, h2⟩ := sum_num hx (fin_read hy)
  refine op_some (d := r) ?_ h2
  unfold floatBits Format.add
  dsimp only
  rw [h1]
  rfl
theorem sub_num {x y : Nat} (hx : finB x = true) (hy : nanF .f32 y = false) : floatBits .sub .f32 x y = some (fop .sub .f32 x y) ∧ nanF .f32 (fop .sub .f32 x y) = false := by
  obtain ⟨s, m, p, h1⟩ := fin_read hx
  have key : ∃ r, (FloatKind.f32.format.read x).sum (FloatKind.f32.format.read y).opposite = some r ∧ r.isNaN = false := by
    rw [h1]
    rcases num_read hy with ⟨t, h2⟩ | ⟨t, n, q, h2⟩ <;> rw [h2] <;> exact ⟨_, rfl, rfl⟩
  obtain ⟨r, h2, h3⟩ := key
  refine op_some (d := r) ?_ h3
  unfold floatBits Format.sub
  dsimp only
  rw [h2]
  rfl
theorem run_num {P : Program} {op : BinOp} {k : FloatKind} {x y r : Nat} (h : floatBits op k x y = some r) : ∀ t w, (binOp op t (.float k x) (.float k y)).run P w = .ok (.float k r) w :=
  fun t w => run_float_arith w op t k x y r h
end Go.Proofs.Ytcpimcjmckljfaa
