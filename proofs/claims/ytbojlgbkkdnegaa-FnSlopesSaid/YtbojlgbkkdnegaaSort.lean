/- Sorting by blocks and by merges, told over lists. No program in this text. -/
namespace Go.Proofs.Ytbojlgbkkdnegaa
section
variable {α : Type} {lt ok : α → α → Prop}
/-- all of one before all of the other -/
def Cross (ok : α → α → Prop) (L R : List α) : Prop := ∀ y ∈ L, ∀ x ∈ R, ok y x
theorem Cross.perm {L R L' R' : List α} (h : Cross ok L R) (hl : L'.Perm L) (hr : R'.Perm R) : Cross ok L' R' :=
  fun y hy x hx => h y (hl.mem_iff.1 hy) x (hr.mem_iff.1 hx)
theorem Cross.sub {L R L' R' : List α} (h : Cross ok L R) (hl : ∀ y ∈ L', y ∈ L) (hr : ∀ x ∈ R', x ∈ R) : Cross ok L' R' :=
  fun y hy x hx => h y (hl y hy) x (hr x hx)
/-- the two in order -/
def Merged (lt : α → α → Prop) (L R M : List α) : Prop := M.Perm (L ++ R) ∧ M.Pairwise lt
theorem pair_get {L : List α} (h : L.Pairwise lt) {i j : Nat} (hi : i < L.length) (hj : j < L.length) (hij : i < j) : lt L[i] L[j] :=
  List.pairwise_iff_getElem.1 h i j hi hj hij
theorem pair_le {L : List α} (h : L.Pairwise lt) {i j : Nat} (hi : i < L.length) (hj : j < L.length) (hij : i ≤ j) : L[i] = L[j] ∨ lt L[i] L[j] := by
  rcases Nat.lt_or_eq_of_le hij with h1 | h1
  · exact .inr (pair_get h hi hj h1)
  · subst h1; exact .inl rfl
theorem cut_one (tr : ∀ x y z, lt x y → lt y z → lt x z) {L R : List α} (hL : L.Pairwise lt) (hR : R.Pairwise lt) {k r : Nat} (hk : k ≤ L.length)
    (h1 : ∀ (hk : k - 1 < L.length) (hr : r < R.length), 0 < k → lt L[k - 1] R[r]) : ∀ x ∈ L.take k, ∀ y ∈ R.drop r, lt x y := by
  intro x hx y hy
  obtain ⟨i, hi, rfl⟩ := List.getElem_of_mem hx
  obtain ⟨j, hj, rfl⟩ := List.getElem_of_mem hy
  rw [List.length_take] at hi
  rw [List.length_drop] at hj
  rw [List.getElem_take, List.getElem_drop]
  have hm := h1 (by omega) (by omega) (by omega)
  have ha := pair_le hL (i := i) (j := k - 1) (by omega) (by omega) (by omega)
  have hb := pair_le hR (i := r) (j := r + j) (by omega) (by omega) (by omega)
  rcases ha with ha | ha <;> rcases hb with hb | hb
  · rw [ha, ← hb]; exact hm
  · rw [ha]; exact tr _ _ _ hm hb
  · rw [← hb]; exact tr _ _ _ ha hm
  · exact tr _ _ _ ha (tr _ _ _ hm hb)
/-- what is cut off left comes before what is left -/
theorem cut_lt (tr : ∀ x y z, lt x y → lt y z → lt x z) {L R : List α} (hL : L.Pairwise lt) (hR : R.Pairwise lt) {k r : Nat} (hk : k ≤ L.length) (hr : r ≤ R.length)
    (h1 : ∀ (hk : k - 1 < L.length) (hr : r < R.length), 0 < k → lt L[k - 1] R[r]) (h2 : ∀ (hr : r - 1 < R.length) (hk : k < L.length), 0 < r → lt R[r - 1] L[k]) :
    Cross lt (L.take k ++ R.take r) (L.drop k ++ R.drop r) := by
  have hk1 := cut_one tr hL hR hk h1
  have hk2 := cut_one tr hR hL hr h2
  have hl : (L.take k ++ L.drop k).Pairwise lt := by rw [List.take_append_drop]; exact hL
  have hr : (R.take r ++ R.drop r).Pairwise lt := by rw [List.take_append_drop]; exact hR
  intro x hx y hy
  rcases List.mem_append.1 hx with hx | hx <;> rcases List.mem_append.1 hy with hy | hy
  · exact (List.pairwise_append.1 hl).2.2 x hx y hy
  · exact hk1 x hx y hy
  · exact hk2 x hx y hy
  · exact (List.pairwise_append.1 hr).2.2 x hx y hy
theorem merged_nil_left {R : List α} (h : R.Pairwise lt) : Merged lt [] R R := ⟨.refl _, h⟩
theorem merged_nil_right {L : List α} (h : L.Pairwise lt) : Merged lt L [] L := ⟨by rw [List.append_nil], h⟩
/-- two merges side by side -/
theorem merged_join {L1 L2 R1 R2 M1 M2 : List α} (h1 : Merged lt L1 R1 M1) (h2 : Merged lt L2 R2 M2) (hc : Cross lt (L1 ++ R1) (L2 ++ R2)) : Merged lt (L1 ++ L2) (R1 ++ R2) (M1 ++ M2) := by
  constructor
  · refine (h1.1.append h2.1).trans ?_
    rw [List.append_assoc, List.append_assoc]
    refine List.Perm.append_left _ ?_
    rw [← List.append_assoc, ← List.append_assoc]
    exact (List.perm_append_comm).append_right _
  · exact List.pairwise_append.2 ⟨h1.2, h2.2, hc.perm h1.1 h2.1⟩
/-- one put in its place -/
theorem put_in {D1 D2 : List α} {x : α} (h : (D1 ++ D2).Pairwise lt) (h1 : ∀ y ∈ D1, lt y x) (h2 : ∀ z ∈ D2, lt x z) : (D1 ++ x :: D2).Pairwise lt := by
  obtain ⟨a, b, c⟩ := List.pairwise_append.1 h
  refine List.pairwise_append.2 ⟨a, List.pairwise_cons.2 ⟨h2, b⟩, fun y hy z hz => ?_⟩
  rcases List.mem_cons.1 hz with rfl | hz
  · exact h1 y hy
  · exact c y hy z hz
theorem put_last (tr : ∀ x y z, lt x y → lt y z → lt x z) {D1 D2 : List α} {x y : α} (h : ((D1 ++ [y]) ++ D2).Pairwise lt) (h1 : lt y x) : ∀ z ∈ D1 ++ [y], lt z x := by
  intro z hz
  rcases List.mem_append.1 hz with hz | hz
  · have := (List.pairwise_append.1 (List.pairwise_append.1 h).1).2.2 z hz y (by simp)
    exact tr _ _ _ this h1
  · simp at hz
    subst hz
    exact h1
theorem put_perm {D1 D2 : List α} {x : α} : (D1 ++ x :: D2).Perm (x :: (D1 ++ D2)) := List.perm_middle
theorem sorted_eq (as : ∀ x y, lt x y → lt y x → False) : ∀ {A B : List α}, A.Pairwise lt → B.Pairwise lt → A.Perm B → A = B := by
  intro A
  induction A with
  | nil => intro B _ _ h; exact (List.perm_nil.1 h.symm).symm
  | cons a s ih =>
    intro B ha hb h
    cases B with
    | nil => exact absurd (List.perm_nil.1 h) (by simp)
    | cons b t =>
      obtain ⟨ha1, ha2⟩ := List.pairwise_cons.1 ha
      obtain ⟨hb1, hb2⟩ := List.pairwise_cons.1 hb
      have e : a = b := by
        rcases List.mem_cons.1 (h.mem_iff.1 (List.mem_cons_self (a := a) (l := s))) with e | e
        · exact e
        · rcases List.mem_cons.1 (h.mem_iff.2 (List.mem_cons_self (a := b) (l := t))) with e' | e'
          · exact e'.symm
          · exact (as _ _ (ha1 b e') (hb1 a e)).elim
      subst e
      rw [ih ha2 hb2 (List.Perm.cons_inv h)]
/-- blocks of a size, each in order, the last perhaps less -/
inductive Runs (lt ok : α → α → Prop) (bs : Nat) : List (List α) → Prop
  | nil : Runs lt ok bs []
  | one {B : List α} (h0 : 0 < B.length) (h1 : B.length ≤ bs) (h2 : B.Pairwise lt) : Runs lt ok bs [B]
  | cons {B : List α} {r : List (List α)} (h0 : B.length = bs) (h2 : B.Pairwise lt) (h3 : Cross ok B r.flatten) (hr : r ≠ []) (h : Runs lt ok bs r) : Runs lt ok bs (B :: r)
theorem runs_pos {bs : Nat} (hb : 0 < bs) {r : List (List α)} (h : Runs lt ok bs r) (hr : r ≠ []) : 0 < r.flatten.length := by
  cases h with
  | nil => exact absurd rfl hr
  | one h0 h1 h2 => simpa using h0
  | cons h0 h2 h3 hr h => simp; omega
theorem runs_full {bs : Nat} (hb : 0 < bs) {r : List (List α)} (h : Runs lt ok bs r) (hl : r.flatten.length ≤ bs) : r.flatten.Pairwise lt := by
  cases h with
  | nil => exact .nil
  | one h0 h1 h2 => simpa using h2
  | cons h0 h2 h3 hr h =>
    have := runs_pos hb h hr
    simp at hl this
    omega
/-- a block more at the head, if it is full, or the last -/
theorem runs_more {bs : Nat} {B : List α} {r : List (List α)} (h0 : 0 < B.length) (h1 : B.length ≤ bs) (h2 : B.Pairwise lt) (h3 : Cross ok B r.flatten) (hf : r ≠ [] → B.length = bs) (h : Runs lt ok bs r) : Runs lt ok bs (B :: r) := by
  by_cases hr : r = []
  · subst hr; exact .one h0 h1 h2
  · exact .cons (hf hr) h2 h3 hr h
/-- the blocks ahead of a rest: whatever blocks the rest is made into, the whole is such -/
def Head (lt ok : α → α → Prop) (bs : Nat) (D R : List α) : Prop := ∀ rs, Runs lt ok bs rs → rs.flatten.Perm R → ∃ bl, Runs lt ok bs bl ∧ bl.flatten = D ++ rs.flatten
theorem head_start {bs : Nat} (R : List α) : Head lt ok bs [] R := fun rs h _ => ⟨rs, h, rfl⟩
theorem head_step {bs : Nat} (hb : 0 < bs) {D B M R : List α} (h : Head lt ok bs D (B ++ R)) (hB : B.length = bs) (hp : M.Perm B) (hs : M.Pairwise lt) (hc : Cross ok B R) : Head lt ok bs (D ++ M) R := by
  intro rs hrs hpr
  have hm : M.length = bs := by rw [hp.length_eq, hB]
  obtain ⟨bl, h1, h2⟩ := h (M :: rs) (runs_more (by omega) (by omega) hs (hc.perm hp hpr) (fun _ => hm) hrs) (by rw [List.flatten_cons]; exact hp.append hpr)
  exact ⟨bl, h1, by rw [h2, List.flatten_cons, List.append_assoc]⟩
theorem head_end {bs : Nat} {D R M : List α} (h : Head lt ok bs D R) (hR : R.length ≤ bs) (hp : M.Perm R) (hs : M.Pairwise lt) : ∃ bl, Runs lt ok bs bl ∧ bl.flatten = D ++ M := by
  have hl := hp.length_eq
  by_cases h0 : M = []
  · obtain ⟨bl, h1, h2⟩ := h [] .nil (by subst h0; simpa using hp)
    exact ⟨bl, h1, by rw [h2, h0]; rfl⟩
  · have h0' : 0 < M.length := List.length_pos_iff.2 h0
    obtain ⟨bl, h1, h2⟩ := h [M] (.one h0' (by omega) hs) (by simpa using hp)
    exact ⟨bl, h1, by rw [h2]; simp⟩
/-- the first two of blocks that hold as much as two -/
theorem runs_two {bs : Nat} (hb : 0 < bs) {r : List (List α)} (h : Runs lt ok bs r) (hl : 2 * bs ≤ r.flatten.length) : ∃ B1 B2 r', r = B1 :: B2 :: r' ∧ B1.length = bs ∧ B2.length = bs ∧ B1.Pairwise lt ∧ B2.Pairwise lt ∧ Cross ok B1 B2 ∧ Cross ok (B1 ++ B2) r'.flatten ∧ Runs lt ok bs r' := by
  cases h with
  | nil => simp at hl; omega
  | one h0 h1 h2 => simp at hl; omega
  | @cons B1 r h0 h2 h3 hr h =>
    cases h with
    | nil => exact absurd rfl hr
    | @one B2 k0 k1 k2 =>
      simp at hl
      exact ⟨B1, B2, [], rfl, h0, by omega, h2, k2, fun y hy x hx => h3 y hy x (by simpa using hx), fun y hy x hx => by simp at hx, .nil⟩
    | @cons B2 r' k0 k2 k3 kr k =>
      refine ⟨B1, B2, r', rfl, h0, k0, h2, k2, fun y hy x hx => h3 y hy x (by simp [hx]), ?_, k⟩
      intro y hy x hx
      rcases List.mem_append.1 hy with hy | hy
      · exact h3 y hy x (by rw [List.flatten_cons]; exact List.mem_append_right _ hx)
      · exact k3 y hy x hx
/-- blocks that hold less than two but more than one -/
theorem runs_rest {bs : Nat} (hb : 0 < bs) {r : List (List α)} (h : Runs lt ok bs r) (hl : r.flatten.length < 2 * bs) (hl2 : bs < r.flatten.length) : ∃ B1 B2, r = [B1, B2] ∧ B1.length = bs ∧ 0 < B2.length ∧ B2.length < bs ∧ B1.Pairwise lt ∧ B2.Pairwise lt ∧ Cross ok B1 B2 := by
  cases h with
  | nil => simp at hl2
  | one h0 h1 h2 => simp at hl2; omega
  | @cons B1 r h0 h2 h3 hr h =>
    cases h with
    | nil => exact absurd rfl hr
    | @one B2 k0 k1 k2 =>
      simp at hl
      exact ⟨B1, B2, rfl, h0, k0, by omega, h2, k2, fun y hy x hx => h3 y hy x (by simpa using hx)⟩
    | @cons B2 r' k0 k2 k3 kr k =>
      have := runs_pos hb k kr
      simp at hl this
      omega
theorem pair_ok {L R : List α} (h : (L ++ R).Pairwise ok) : L.Pairwise ok ∧ R.Pairwise ok ∧ Cross ok L R := List.pairwise_append.1 h
/-- a list cut after its first places -/
theorem cut_at (R : List α) {k : Nat} (h : k ≤ R.length) : ∃ B R', R = B ++ R' ∧ B.length = k := ⟨R.take k, R.drop k, (List.take_append_drop k R).symm, by rw [List.length_take]; omega⟩
end
end Go.Proofs.Ytbojlgbkkdnegaa
