/- What is too steep slides: told over lists. -/
import Derived.Test.YtcpimcjmckljfaaSheets
namespace Go.Proofs.Ytcpimcjmckljfaa
open Ieee Go.RowKit
def gtF (x y : Nat) : Bool := FloatKind.f32.format.order x y == some .gt
def geF (x y : Nat) : Bool := FloatKind.f32.format.order x y == some .gt || FloatKind.f32.format.order x y == some .eq
def leF (x y : Nat) : Bool := FloatKind.f32.format.order x y == some .lt || FloatKind.f32.format.order x y == some .eq
/-- how much too steep it is from place i to place k -/
def dropF (xs : List Nat) (t : Nat) (i : Nat) (k : Int) : Nat := fop .sub .f32 (fop .sub .f32 (xs.getD i 0) (xs.getD k.toNat 0)) t
/-- a quantity m goes from place i to place k -/
def moved (o : List Nat) (i : Nat) (k : Int) (m : Nat) : List Nat :=
  (o.set i (fop .sub .f32 (o.getD i 0) m)).set k.toNat (fop .add .f32 ((o.set i (fop .sub .f32 (o.getD i 0) m)).getD k.toNat 0) m)
def slide (xs : List Nat) (t h i : Nat) (st : List Nat × Nat) (k : Int) : List Nat × Nat :=
  if gtF (dropF xs t i k) 0 = true then (moved st.1 i k (fop .mul .f32 h (dropF xs t i k)), fop .add .f32 st.2 (fop .mul .f32 h (dropF xs t i k))) else st
def slides (xs : List Nat) (t h i : Nat) (l : List Int) (st : List Nat × Nat) : List Nat × Nat := l.foldl (slide xs t h i) st
def talusK (wd hg : Int) (xs : List Nat) (t h : Nat) : Nat → List Nat × Nat
  | 0 => (xs, 0)
  | k + 1 => slides xs t h k (nb wd hg k) (talusK wd hg xs t h k)
theorem slides_take {xs : List Nat} {t h i : Nat} {l : List Int} {st : List Nat × Nat} {j : Nat} (hj : j < l.length) : slides xs t h i (l.take (j + 1)) st = slide xs t h i (slides xs t h i (l.take j) st) l[j] := by
  unfold slides
  rw [List.take_succ_eq_append_getElem hj, List.foldl_append]
  rfl
theorem slide_yes {xs : List Nat} {t h i : Nat} {st : List Nat × Nat} {k : Int} (hg : gtF (dropF xs t i k) 0 = true) : slide xs t h i st k = (moved st.1 i k (fop .mul .f32 h (dropF xs t i k)), fop .add .f32 st.2 (fop .mul .f32 h (dropF xs t i k))) := by unfold slide; rw [if_pos hg]
theorem slide_no {xs : List Nat} {t h i : Nat} {st : List Nat × Nat} {k : Int} (hg : gtF (dropF xs t i k) 0 = false) : slide xs t h i st k = st := by unfold slide; rw [hg]; rfl
/-- two states are the same but for NaNs' bits -/
def SimS (a b : List Nat × Nat) : Prop := SimL a.1 b.1 ∧ Sim .f32 a.2 b.2
theorem SimL.set {xs ys : List Nat} {x y : Nat} (h : SimL xs ys) (hx : Sim .f32 x y) (i : Nat) : SimL (xs.set i x) (ys.set i y) := by
  refine ⟨by simp [h.1], fun j a b ha hb => ?_⟩
  rw [List.getElem?_set] at ha hb
  by_cases hij : i = j
  · rw [if_pos hij] at ha hb
    by_cases hi : i < xs.length
    · rw [if_pos hi] at ha
      rw [if_pos (by rw [← h.1]; exact hi)] at hb
      cases ha; cases hb
      exact hx
    · rw [if_neg hi] at ha
      cases ha
  · rw [if_neg hij] at ha hb
    exact h.2 j a b ha hb
theorem SimL.getD {xs ys : List Nat} (h : SimL xs ys) (i : Nat) : Sim .f32 (xs.getD i 0) (ys.getD i 0) := by
  rw [List.getD_eq_getElem?_getD, List.getD_eq_getElem?_getD]
  by_cases hi : i < xs.length
  · have hj : i < ys.length := by rw [← h.1]; exact hi
    rw [List.getElem?_eq_getElem hi, List.getElem?_eq_getElem hj]
    exact h.2 i _ _ (List.getElem?_eq_getElem hi) (List.getElem?_eq_getElem hj)
  · rw [List.getElem?_eq_none (by omega), List.getElem?_eq_none (by have := h.1; omega)]
    exact .refl _ _
theorem moved_sim {o' o : List Nat} {i : Nat} {k : Int} {m' m r1 r2 : Nat} (ho : SimL o' o) (hm : Sim .f32 m' m) (h1 : Sim .f32 r1 (fop .sub .f32 (o'.getD i 0) m')) (h2 : Sim .f32 r2 (fop .add .f32 ((o'.set i r1).getD k.toNat 0) m')) :
    SimL ((o'.set i r1).set k.toNat r2) (moved o i k m) := by
  have e1 := ho.set (h1.trans (fop_sim arith_sub (ho.getD i) hm)) i
  exact e1.set (h2.trans (fop_sim arith_add (e1.getD k.toNat) hm)) k.toNat
theorem moved_len (o : List Nat) (i : Nat) (k : Int) (m : Nat) : (moved o i k m).length = o.length := by unfold moved; rw [List.length_set, List.length_set]
theorem slide_len (xs : List Nat) (t h i : Nat) (st : List Nat × Nat) (k : Int) : (slide xs t h i st k).1.length = st.1.length := by
  unfold slide
  split
  · exact moved_len _ _ _ _
  · rfl
theorem slides_len (xs : List Nat) (t h i : Nat) (l : List Int) (st : List Nat × Nat) : (slides xs t h i l st).1.length = st.1.length := by
  unfold slides
  induction l generalizing st with
  | nil => rfl
  | cons k r ih => rw [List.foldl_cons, ih, slide_len]
theorem talusK_len (wd hg : Int) (xs : List Nat) (t h k : Nat) : (talusK wd hg xs t h k).1.length = xs.length := by
  induction k with
  | zero => rfl
  | succ k ih => show (slides _ _ _ _ _ _).1.length = _; rw [slides_len, ih]
theorem finL_iff {xs : List Nat} : finL xs = true ↔ ∀ x ∈ xs, finB x = true := by
  unfold finL
  rw [Bool.not_eq_true', List.any_eq_false]
  simp
theorem finL_sim {xs ys : List Nat} (h : SimL xs ys) : finL xs = finL ys := by
  have key : ∀ {a b : List Nat}, SimL a b → finL b = true → finL a = true := by
    intro a b h hb
    rw [finL_iff] at hb ⊢
    intro x hx
    obtain ⟨i, hi, rfl⟩ := List.getElem_of_mem hx
    have hj : i < b.length := by rw [← h.1]; exact hi
    rw [finB_sim (h.2 i _ _ (List.getElem?_eq_getElem hi) (List.getElem?_eq_getElem hj))]
    exact hb _ (List.getElem_mem hj)
  have hs : SimL ys xs := ⟨h.1.symm, fun i x y hx hy => (h.2 i y x hy hx).symm⟩
  cases ha : finL xs <;> cases hb : finL ys <;> first | rfl | (have := key h hb; rw [ha] at this; cases this) | (have := key hs ha; rw [hb] at this; cases this)
theorem SimL.eq {xs ys : List Nat} (h : SimL xs ys) (hf : finL ys = true) : xs = ys := by
  rw [finL_iff] at hf
  refine List.ext_getElem h.1 fun i h1 h2 => ?_
  exact (h.2 i _ _ (List.getElem?_eq_getElem h1) (List.getElem?_eq_getElem h2)).eq (fin_num (hf _ (List.getElem_mem h2)))
theorem vS_sim {wd hg : Int} {xs ys : List Nat} (h : SimL xs ys) : vS wd hg xs = vS wd hg ys := by unfold vS; rw [h.1, finL_sim h]
/-- the arguments are such -/
def talA (wd hg : Int) (xs : List Nat) (t h : Nat) : Bool := vS wd hg xs && (finB t && geF t 0) && (geF h 0 && leF h 1040187392)
def talE (wd hg : Int) (xs : List Nat) (t h : Nat) : List Nat × Nat := talusK wd hg xs t h xs.length
def talOk (wd hg : Int) (xs : List Nat) (t h : Nat) : Bool := talA wd hg xs t h && (vS wd hg (talE wd hg xs t h).1 && finB (talE wd hg xs t h).2)
def talR (wd hg : Int) (xs : List Nat) (t h : Nat) : Option (List Nat × Nat) := if talOk wd hg xs t h = true then some (talE wd hg xs t h) else none
/-- e gives a sheet, a number and a bool; the sheet's heights lie in a row of their own from block B on -/
def GivesSFB (B : Nat) (wd hg : Int) (rs : List Nat) (z : Nat) (ok : Bool) (e : Ending) (w' : World) : Prop :=
  ∃ A c, e = .returned (.tuple #[.agg #[.int .i64 wd, .int .i64 hg, .slice A rs.length c], .float .f32 z, .bool ok]) ∧ w'.ownsRow B 23 1 (.slice A rs.length c) rs.length (rs.map (Value.float .f32))
def GivesTal (B : Nat) (wd hg : Int) (r : Option (List Nat × Nat)) (e : Ending) (w' : World) : Prop :=
  match r with
  | some r => GivesSFB B wd hg r.1 r.2 true e w'
  | none => GivesSFB B 0 0 [] 0 false e w'
theorem gives_some {B : Nat} {wd hg : Int} {r : Option (List Nat × Nat)} {rs : List Nat} {z : Nat} {e : Ending} {w' : World} (h : r = some (rs, z)) (hg' : GivesSFB B wd hg rs z true e w') : GivesTal B wd hg r e w' := by rw [h]; exact hg'
theorem gives_none {B : Nat} {wd hg : Int} {r : Option (List Nat × Nat)} {e : Ending} {w' : World} (h : r = none) (hg' : GivesSFB B 0 0 [] 0 false e w') : GivesTal B wd hg r e w' := by rw [h]; exact hg'
theorem GivesSheet.parts {B : Nat} {wd hg : Int} {bs : List Nat} {e : Ending} {w' : World} (h : GivesSheet B wd hg bs e w') : ∃ g c, e = .returned (.agg #[.int .i64 wd, .int .i64 hg, .slice (some ⟨g, 0, none⟩) bs.length c]) ∧ w'.ownsRow B 23 1 (.slice (some ⟨g, 0, none⟩) bs.length c) bs.length (bs.map (Value.float .f32)) := h
theorem tal_no {wd hg : Int} {xs : List Nat} {t h : Nat} (ha : talA wd hg xs t h = false) : talR wd hg xs t h = none := by unfold talR talOk; rw [ha]; rfl
theorem tal_end {wd hg : Int} {xs o : List Nat} {t h s : Nat} (ha : talA wd hg xs t h = true) (hs : SimS (o, s) (talE wd hg xs t h)) :
    (vS wd hg o = false → talR wd hg xs t h = none) ∧ (finB s = false → talR wd hg xs t h = none) ∧ (vS wd hg o = true → finB s = true → talR wd hg xs t h = some (o, s)) := by
  have e1 : vS wd hg o = vS wd hg (talE wd hg xs t h).1 := vS_sim hs.1
  have e2 : finB s = finB (talE wd hg xs t h).2 := finB_sim hs.2
  unfold talR talOk
  rw [ha, ← e1, ← e2]
  refine ⟨fun h1 => by rw [h1]; rfl, fun h1 => by rw [h1, Bool.and_false]; rfl, fun h1 h2 => ?_⟩
  rw [h1, h2]
  have h3 : finL (talE wd hg xs t h).1 = true := by
    rw [e1] at h1
    unfold vS at h1
    rw [Bool.and_eq_true] at h1
    exact h1.2
  have h4 : o = (talE wd hg xs t h).1 := hs.1.eq h3
  have h5 : s = (talE wd hg xs t h).2 := hs.2.eq (fin_num (by rw [← e2]; exact h2))
  rw [h4, h5]
  rfl
/-- a finite number less a number that is none, and the like -/
theorem sub_num' {x y : Nat} (hx : nanF .f32 x = false) (hy : finB y = true) : floatBits .sub .f32 x y = some (fop .sub .f32 x y) ∧ nanF .f32 (fop .sub .f32 x y) = false := by
  obtain ⟨s, m, p, h1⟩ := fin_read hy
  have key : ∃ r, (FloatKind.f32.format.read x).sum (FloatKind.f32.format.read y).opposite = some r ∧ r.isNaN = false := by
    rw [h1]
    rcases num_read hx with ⟨t, h2⟩ | ⟨t, n, q, h2⟩ <;> rw [h2] <;> exact ⟨_, rfl, rfl⟩
  obtain ⟨r, h2, h3⟩ := key
  refine op_some (d := r) ?_ h3
  unfold floatBits Format.sub
  dsimp only
  rw [h2]
  rfl
/-- an operation whose value, a NaN's bits, may differ from world to world -/
theorem run_fopS {P : Program} {op : BinOp} (hop : IsArith op) (t : TypeId) (k : FloatKind) (x y : Nat) :
    ∃ (f m : World → Nat), (∀ w, (binOp op t (.float k x) (.float k y)).run P w = .ok (.float k (f w)) (w.drewN (m w))) ∧ ∀ w, Sim k (f w) (fop op k x y) := by
  obtain ⟨f, hf⟩ := Classical.skolem.1 (fun w => run_fop (P := P) w hop t k x y)
  obtain ⟨m, hm⟩ := Classical.skolem.1 hf
  exact ⟨f, m, fun w => (hm w).1, fun w => (hm w).2⟩
theorem nb_mem {wd hg : Int} {i : Nat} (h1 : 1 ≤ wd) (hi : (i : Int) < wd * hg) : ∀ k ∈ nb wd hg i, 0 ≤ k ∧ k < wd * hg := by
  have r0 : 0 ≤ (i : Int) % wd := Int.emod_nonneg _ (by omega)
  have r1 : (i : Int) = 0 → (i : Int) % wd = 0 := fun h => by rw [h]; exact Int.zero_emod _
  have key : (i : Int) % wd + 1 < wd → (i : Int) + 1 < wd * hg := by
    intro hlt
    have e := Int.emod_add_mul_ediv (i : Int) wd
    have hq : (i : Int) / wd < hg := by
      rw [Int.ediv_lt_iff_lt_mul (by omega), Int.mul_comm]
      exact hi
    have hm : wd * ((i : Int) / wd + 1) ≤ wd * hg := Int.mul_le_mul_of_nonneg_left (by omega) (by omega)
    rw [Int.mul_add, Int.mul_one] at hm
    omega
  intro k hk
  unfold nb nb3 nb2 nb1 at hk
  simp only [List.mem_append] at hk
  rcases hk with ((hk | hk) | hk) | hk
  all_goals
    split at hk
    · rename_i hc; simp at hk; subst hk; omega
    · simp at hk
end Go.Proofs.Ytcpimcjmckljfaa
