/- Invasion: which cell is next, and that there is always one: plain lists. -/
import Derived.Test.YtbefcfdmaafghaaTouch
namespace Go.Proofs.Ytbefcfdmaafghaa
open Go.RowKit
/-- one weight is less than another -/
def ltW (ws : List Nat) (i j : Int) : Bool := FloatKind.f32.format.order (ws.getD i.toNat 0) (ws.getD j.toNat 0) == some .lt
/-- a cell that is not full and has a full side -/
def cand (wd hg : Int) (bs : List Bool) (k : Int) : Bool := !full bs k && touchB wd hg bs k
/-- the best of the first k cells, -1 for none -/
def bestTo (wd hg : Int) (ws : List Nat) (bs : List Bool) : Nat → Int
  | 0 => -1
  | k + 1 => if cand wd hg bs k && (decide (bestTo wd hg ws bs k < 0) || ltW ws k (bestTo wd hg ws bs k)) then (k : Int) else bestTo wd hg ws bs k
theorem best_yes {wd hg : Int} {ws : List Nat} {bs : List Bool} {k : Nat} (h1 : full bs k = false) (h2 : touchB wd hg bs k = true) (h3 : bestTo wd hg ws bs k < 0 ∨ ltW ws k (bestTo wd hg ws bs k) = true) : bestTo wd hg ws bs (k + 1) = k := by
  show (if _ then _ else _) = _
  rw [if_pos (by unfold cand; rw [h1, h2]; rcases h3 with h | h <;> simp [h])]
theorem best_no {wd hg : Int} {ws : List Nat} {bs : List Bool} {k : Nat} (h : full bs k = true ∨ touchB wd hg bs k = false ∨ (¬ bestTo wd hg ws bs k < 0 ∧ ltW ws k (bestTo wd hg ws bs k) = false)) : bestTo wd hg ws bs (k + 1) = bestTo wd hg ws bs k := by
  show (if _ then _ else _) = _
  rw [if_neg]
  unfold cand
  rcases h with h | h | ⟨h, h'⟩
  · rw [h]; simp
  · rw [h]; simp
  · rw [h']; simp; intros; omega
theorem best_bd (wd hg : Int) (ws : List Nat) (bs : List Bool) (k : Nat) : -1 ≤ bestTo wd hg ws bs k ∧ bestTo wd hg ws bs k < k ∧ (0 ≤ bestTo wd hg ws bs k → full bs (bestTo wd hg ws bs k) = false) := by
  induction k with
  | zero => simp [bestTo]
  | succ k ih =>
    simp only [bestTo]
    split
    · rename_i h
      unfold cand at h
      simp at h
      exact ⟨by omega, by omega, fun _ => h.1.1⟩
    · exact ⟨ih.1, by omega, ih.2.2⟩
theorem best_pos {wd hg : Int} {ws : List Nat} {bs : List Bool} {k i : Nat} (hi : i < k) (h1 : full bs i = false) (h2 : touchB wd hg bs i = true) : 0 ≤ bestTo wd hg ws bs k := by
  induction k with
  | zero => omega
  | succ k ih =>
    by_cases e : i = k
    · subst e
      by_cases h3 : bestTo wd hg ws bs i < 0
      · rw [best_yes h1 h2 (.inl h3)]; omega
      · simp only [bestTo]
        split <;> omega
    · have := ih (by omega)
      simp only [bestTo]
      split <;> omega
/-- going back to cell 0 -/
def back (wd i : Int) : Int := if wd ≤ i then i - wd else i - 1
theorem nb_in {wd hg i x : Int} (h : (wd ≤ i ∧ x = i - wd) ∨ (0 < i % wd ∧ x = i - 1) ∨ (i % wd + 1 < wd ∧ x = i + 1) ∨ (i + wd < wd * hg ∧ x = i + wd)) : x ∈ nb wd hg i := by
  unfold nb nb3 nb2 nb1
  simp only [List.mem_append]
  rcases h with ⟨h, rfl⟩ | ⟨h, rfl⟩ | ⟨h, rfl⟩ | ⟨h, rfl⟩
  · left; left; left; rw [if_pos h]; simp
  · left; left; right; rw [if_pos h]; simp
  · left; right; rw [if_pos h]; simp
  · right; rw [if_pos h]; simp
theorem back_nb {wd hg i : Int} (h1 : 1 ≤ wd) (h5 : 0 < i) (h6 : i < wd * hg) : back wd i ∈ nb wd hg i ∧ i ∈ nb wd hg (back wd i) ∧ 0 ≤ back wd i ∧ back wd i < i := by
  unfold back
  by_cases h : wd ≤ i
  · rw [if_pos h]
    exact ⟨nb_in (.inl ⟨h, rfl⟩), nb_in (.inr (.inr (.inr ⟨by omega, by omega⟩))), by omega, by omega⟩
  · rw [if_neg h]
    have e1 : i % wd = i := Int.emod_eq_of_lt (by omega) (by omega)
    have e2 : (i - 1) % wd = i - 1 := Int.emod_eq_of_lt (by omega) (by omega)
    exact ⟨nb_in (.inr (.inl ⟨by omega, rfl⟩)), nb_in (.inr (.inr (.inl ⟨by omega, by omega⟩))), by omega, by omega⟩
/-- if no cell that is not full has a full side, all cells are alike -/
theorem all_alike {wd hg : Int} {bs : List Bool} (h1 : 1 ≤ wd) (h : ∀ i : Nat, (i : Int) < wd * hg → full bs i = false → touchB wd hg bs i = false) : ∀ (n i : Nat), i ≤ n → (i : Int) < wd * hg → full bs i = full bs 0 := by
  intro n
  induction n with
  | zero => intro i hi _; obtain rfl : i = 0 := by omega
            rfl
  | succ n ih =>
    intro i hi hlt
    by_cases h0 : i = 0
    · subst h0; rfl
    · obtain ⟨m1, m2, b0, b1⟩ := back_nb (hg := hg) h1 (show (0 : Int) < (i : Int) by omega) hlt
      obtain ⟨j, hj⟩ : ∃ j : Nat, (j : Int) = back wd i := ⟨(back wd i).toNat, by omega⟩
      rw [← hj] at m1 m2 b1
      have hji := ih j (by omega) (by omega)
      rw [← hji]
      have hnt : ∀ (a b : Nat), (a : Int) < wd * hg → (b : Int) ∈ nb wd hg a → full bs b = true → full bs a = true := by
        intro a b ha hb hfb
        cases hfa : full bs a
        · have := h a ha hfa
          unfold touchB at this
          rw [List.any_eq_false] at this
          exact absurd hfb (this _ hb)
        · rfl
      cases ha : full bs i <;> cases hb : full bs j
      · rfl
      · have := hnt i j hlt m1 hb; rw [ha] at this; cases this
      · have := hnt j i (by omega) m2 ha; rw [hb] at this; cases this
      · rfl
/-- some cell is full and some is not: there is a cell to come to -/
theorem some_cand {wd hg : Int} {bs : List Bool} (h1 : 1 ≤ wd) (hn : (bs.length : Int) = wd * hg) {a b : Nat} (ha : a < bs.length) (hb : b < bs.length) (hfa : full bs a = true) (hfb : full bs b = false) :
    ∃ i : Nat, i < bs.length ∧ full bs i = false ∧ touchB wd hg bs i = true := by
  refine Classical.byContradiction fun hno => ?_
  have h : ∀ i : Nat, (i : Int) < wd * hg → full bs i = false → touchB wd hg bs i = false := by
    intro i hi hfi
    cases ht : touchB wd hg bs i
    · rfl
    · exact absurd ⟨i, by omega, hfi, ht⟩ hno
  have e1 := all_alike h1 h a a (Nat.le_refl _) (by omega)
  have e2 := all_alike h1 h b b (Nat.le_refl _) (by omega)
  rw [hfa] at e1
  rw [hfb] at e2
  rw [← e1] at e2
  cases e2
/-- how many are full -/
def cntT (bs : List Bool) : Nat := bs.count true
theorem cntT_set {bs : List Bool} {i : Nat} (hi : i < bs.length) (h : bs[i] = false) : cntT (bs.set i true) = cntT bs + 1 := by
  unfold cntT
  induction bs generalizing i with
  | nil => simp at hi
  | cons x r ih =>
    cases i with
    | zero => simp at h; subst h; simp
    | succ i =>
      simp at h hi
      have := ih hi h
      rw [List.set_cons_succ, List.count_cons, List.count_cons, this]; omega
theorem cntT_not_all {bs : List Bool} (h : cntT bs < bs.length) : ∃ i, ∃ hi : i < bs.length, bs[i] = false := by
  unfold cntT at h
  induction bs with
  | nil => simp at h
  | cons x r ih =>
    cases x
    · exact ⟨0, by simp, rfl⟩
    · rw [List.count_cons] at h
      simp at h
      obtain ⟨i, hi, hx⟩ := ih (by omega)
      exact ⟨i + 1, by simpa using hi, hx⟩
theorem cntT_some {bs : List Bool} (h : 0 < cntT bs) : ∃ i, ∃ hi : i < bs.length, bs[i] = true := by
  unfold cntT at h
  have := List.count_pos_iff.1 h
  obtain ⟨i, hi, hx⟩ := List.getElem_of_mem this
  exact ⟨i, hi, hx⟩
theorem full_at {bs : List Bool} {i : Nat} (hi : i < bs.length) : full bs i = bs[i] := by unfold full; simp [List.getElem?_eq_getElem hi]
theorem best_there {wd hg : Int} {ws : List Nat} {bs : List Bool} (h1 : 1 ≤ wd) (hn : (bs.length : Int) = wd * hg) (h0 : 0 < cntT bs) (hlt : cntT bs < bs.length) : 0 ≤ bestTo wd hg ws bs bs.length := by
  obtain ⟨a, ha, hfa⟩ := cntT_some h0
  obtain ⟨b, hb, hfb⟩ := cntT_not_all hlt
  obtain ⟨i, hi, hf, ht⟩ := some_cand (wd := wd) (hg := hg) h1 hn ha hb (by rw [full_at ha]; exact hfa) (by rw [full_at hb]; exact hfb)
  exact best_pos hi hf ht
/-- c cells more -/
def invN (wd hg : Int) (ws : List Nat) : Nat → List Bool → List Int → List Int
  | 0, _, acc => acc
  | c + 1, bs, acc => invN wd hg ws c (bs.set (bestTo wd hg ws bs bs.length).toNat true) (acc ++ [bestTo wd hg ws bs bs.length])
theorem invN_step {wd hg : Int} {ws : List Nat} {c : Nat} {bs : List Bool} {acc : List Int} (hc : 0 < c) : invN wd hg ws c bs acc = invN wd hg ws (c - 1) (bs.set (bestTo wd hg ws bs bs.length).toNat true) (acc ++ [bestTo wd hg ws bs bs.length]) := by
  obtain ⟨d, rfl⟩ : ∃ d, c = d + 1 := ⟨c - 1, by omega⟩
  rw [Nat.add_sub_cancel]
  rfl
theorem invN_len (wd hg : Int) (ws : List Nat) (c : Nat) : ∀ (bs : List Bool) (acc : List Int), (invN wd hg ws c bs acc).length = acc.length + c := by
  induction c with
  | zero => intro bs acc; rfl
  | succ c ih => intro bs acc; rw [invN, ih]; simp; omega
end Go.Proofs.Ytbefcfdmaafghaa
