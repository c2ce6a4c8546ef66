/- The runs of a list of bools as bytes: plain lists, no program. -/
import Derived.Test.YtbefcfdmaafghaaWords
namespace Go.Proofs.Ytbefcfdmaafghaa

/-- how many of the first ones equal b -/
def lead (b : Bool) : List Bool → Nat
  | [] => 0
  | x :: r => if x = b then lead b r + 1 else 0
/-- the bytes of a run -/
def runB (r : Nat) : List Int := if r < 255 then [(r : Int)] else [255, (r : Int) - 255]
/-- the bytes of runs, the first one of b -/
def packF : Nat → Bool → List Bool → List Int
  | 0, _, _ => []
  | f + 1, b, l => if l = [] then [] else runB (lead b l) ++ packF f (!b) (l.drop (lead b l))
/-- how much fuel is wanted -/
def needP (b : Bool) (l : List Bool) : Nat := 2 * l.length + (if lead b l = 0 then 1 else 0)
def packL (l : List Bool) : List Int := packF (2 * l.length + 1) false l

theorem lead_le (b : Bool) (l : List Bool) : lead b l ≤ l.length := by
  induction l with
  | nil => simp [lead]
  | cons x r ih => simp only [lead]; split <;> simp <;> omega
theorem lead_lt {b : Bool} {l : List Bool} {k : Nat} (h : k < lead b l) : l[k]? = some b := by
  induction l generalizing k with
  | nil => simp [lead] at h
  | cons x r ih =>
    simp only [lead] at h
    split at h
    · rename_i hx
      cases k with
      | zero => simp [hx]
      | succ k => simpa using ih (by omega)
    · omega
theorem lead_at {b : Bool} {l : List Bool} (h : lead b l < l.length) : l[lead b l]? = some (!b) := by
  induction l with
  | nil => simp [lead] at h
  | cons x r ih =>
    simp only [lead] at h ⊢
    split
    · rename_i hx
      rw [if_pos hx] at h
      simpa using ih (by simpa using h)
    · rename_i hx
      simp
      cases x <;> cases b <;> simp_all
/-- the run is what it is: k places hold b, and then comes another or nothing -/
theorem lead_eq {b : Bool} {l : List Bool} {k : Nat} (h1 : ∀ j, j < k → l[j]? = some b) (h2 : l[k]? ≠ some b) : lead b l = k := by
  rcases Nat.lt_trichotomy (lead b l) k with h | h | h
  · exfalso
    have := h1 _ h
    rw [lead_at (by
      have := (List.getElem?_eq_some_iff.1 this).1
      exact this)] at this
    cases b <;> simp at this
  · exact h
  · exact absurd (lead_lt h) h2
theorem lead_zero_drop {b : Bool} {l : List Bool} : lead b l = l.length ∨ lead (!b) (l.drop (lead b l)) ≠ 0 := by
  rcases Nat.lt_or_ge (lead b l) l.length with h | h
  · right
    have := lead_at h
    intro h0
    have e : (l.drop (lead b l))[0]? = some (!b) := by rw [List.getElem?_drop]; simpa using this
    have hne : l.drop (lead b l) ≠ [] := by intro hn; rw [hn] at e; simp at e
    obtain ⟨x, r, hxr⟩ := List.exists_cons_of_ne_nil hne
    rw [hxr] at e h0
    simp at e
    simp [lead, e] at h0
  · left
    have := lead_le b l
    omega
theorem need_step {b : Bool} {l : List Bool} (hl : l ≠ []) : needP (!b) (l.drop (lead b l)) + 1 ≤ needP b l := by
  have hpos : 0 < l.length := List.length_pos_iff.2 hl
  have hle := lead_le b l
  unfold needP
  rw [List.length_drop]
  rcases (lead_zero_drop (b := b) (l := l)) with h | h
  · rw [h, List.drop_eq_nil_of_le (by omega)]
    simp only [lead]
    split <;> (split <;> omega)
  · rw [if_neg h]
    split <;> omega
/-- fuel beyond need changes nothing -/
theorem packF_fuel (f : Nat) : ∀ (g : Nat) (b : Bool) (l : List Bool), needP b l ≤ f → needP b l ≤ g → packF f b l = packF g b l := by
  induction f with
  | zero =>
    intro g b l h1 _
    have hl : l = [] := by
      unfold needP at h1
      exact List.eq_nil_of_length_eq_zero (by omega)
    subst hl
    simp [needP, lead] at h1
  | succ f ih =>
    intro g b l h1 h2
    cases g with
    | zero =>
      have hl : l = [] := by
        unfold needP at h2
        exact List.eq_nil_of_length_eq_zero (by omega)
      subst hl
      simp [needP, lead] at h2
    | succ g =>
      simp only [packF]
      by_cases hl : l = []
      · simp [hl]
      · rw [if_neg hl, if_neg hl]
        have hs := need_step (b := b) hl
        rw [ih g (!b) _ (by omega) (by omega)]
theorem need_le (b : Bool) (l : List Bool) : needP b l ≤ 2 * l.length + 1 := by unfold needP; split <;> omega
/-- the bytes from here on -/
def packR (b : Bool) (l : List Bool) : List Int := packF (2 * l.length + 1) b l
theorem packR_nil (b : Bool) : packR b [] = [] := by simp [packR, packF]
theorem packR_step {b : Bool} {l : List Bool} (hl : l ≠ []) : packR b l = runB (lead b l) ++ packR (!b) (l.drop (lead b l)) := by
  have h1 : packR b l = if l = [] then [] else runB (lead b l) ++ packF (2 * l.length) (!b) (l.drop (lead b l)) := rfl
  have hs := need_step (b := b) hl
  have hn := need_le b l
  rw [h1, if_neg hl]
  congr 1
  exact packF_fuel _ _ _ _ (by omega) (need_le _ _)
theorem packL_eq (l : List Bool) : packL l = packR false l := rfl
theorem runB_len (r : Nat) : (runB r).length ≤ 2 ∧ 1 ≤ (runB r).length := by unfold runB; split <;> simp
theorem runB_bd {r : Nat} (h : r ≤ 256) : ∀ x ∈ runB r, 0 ≤ x ∧ x < 256 := by
  unfold runB
  split
  · intro x hx; simp at hx; omega
  · intro x hx; simp at hx; omega
theorem packF_bd (f : Nat) : ∀ (b : Bool) (l : List Bool), l.length ≤ 256 → ∀ x ∈ packF f b l, 0 ≤ x ∧ x < 256 := by
  induction f with
  | zero => intro b l _ x hx; simp [packF] at hx
  | succ f ih =>
    intro b l hl x hx
    simp only [packF] at hx
    split at hx
    · simp at hx
    · rcases List.mem_append.1 hx with h | h
      · exact runB_bd (Nat.le_trans (lead_le b l) hl) x h
      · exact ih _ _ (by rw [List.length_drop]; omega) x h
theorem packR_bd {b : Bool} {l : List Bool} (hl : l.length ≤ 256) : ∀ x ∈ packR b l, 0 ≤ x ∧ x < 256 := packF_bd _ _ _ hl
end Go.Proofs.Ytbefcfdmaafghaa
