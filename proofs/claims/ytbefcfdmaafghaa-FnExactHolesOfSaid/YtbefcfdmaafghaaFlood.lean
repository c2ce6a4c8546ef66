/- Floods: the labels of cells when a cell and all that it leads to has been labelled; groups of cells, holes. Plain lists. -/
namespace Go.Proofs.Ytbefcfdmaafghaa

/-- cell k has no label -/
def noL (out : List Int) (k : Int) : Bool := decide (out.getD k.toNat 0 < 0)
/-- how many cells have no label -/
def unl (out : List Int) : Nat := out.countP (fun x => decide (x < 0))

/-- the cells that cell i leads to, over cells that are free and had no label -/
inductive Leads (nbf : Int → List Int) (fr : Int → Bool) (out : List Int) (i : Int) : Int → Prop where
  | here : Leads nbf fr out i i
  | step {j k : Int} : Leads nbf fr out i j → k ∈ nbf j → fr k = true → noL out k = true → Leads nbf fr out i k

/-- one side is looked at -/
def visit (fr : Int → Bool) (g : Int) (s : List Int × List Int) (k : Int) : List Int × List Int :=
  if fr k = true ∧ noL s.1 k = true then (s.1.set k.toNat g, s.2 ++ [k]) else s

theorem visit_yes {fr : Int → Bool} {g : Int} {s : List Int × List Int} {k : Int} (h : fr k = true) (h' : noL s.1 k = true) : visit fr g s k = (s.1.set k.toNat g, s.2 ++ [k]) := by
  unfold visit; rw [if_pos ⟨h, h'⟩]
theorem visit_no {fr : Int → Bool} {g : Int} {s : List Int × List Int} {k : Int} (h : fr k = false ∨ noL s.1 k = false) : visit fr g s k = s := by
  unfold visit; rw [if_neg]; rintro ⟨h1, h2⟩; rcases h with h | h <;> simp_all

theorem visit_len (fr : Int → Bool) (g : Int) (s : List Int × List Int) (k : Int) : (visit fr g s k).1.length = s.1.length := by
  unfold visit; split <;> simp
theorem visits_len (fr : Int → Bool) (g : Int) (ks : List Int) : ∀ s : List Int × List Int, (ks.foldl (visit fr g) s).1.length = s.1.length := by
  induction ks with
  | nil => intro s; rfl
  | cons a r ih => intro s; rw [List.foldl_cons, ih, visit_len]

theorem noL_lt {out : List Int} {k : Int} (h : noL out k = true) : k.toNat < out.length := by
  unfold noL at h
  rw [decide_eq_true_eq] at h
  apply Classical.byContradiction
  intro hn
  rw [List.getD_eq_getElem?_getD, List.getElem?_eq_none (by omega)] at h
  simp at h

theorem unl_set {out : List Int} {k g : Int} (h : noL out k = true) (hg : 0 ≤ g) : unl (out.set k.toNat g) + 1 = unl out := by
  have hk := noL_lt h
  unfold noL at h
  rw [decide_eq_true_eq, List.getD_eq_getElem?_getD, List.getElem?_eq_getElem hk] at h
  simp at h
  have hp : 0 < unl out := by
    unfold unl
    rw [List.countP_pos_iff]
    exact ⟨out[k.toNat], List.getElem_mem hk, by simpa using h⟩
  unfold unl at hp ⊢
  rw [List.countP_set hk]
  rw [if_pos (by simpa using h), if_neg (by simpa using hg)]
  omega
theorem unl_le (out : List Int) : unl out ≤ out.length := List.countP_le_length

theorem visit_sum {fr : Int → Bool} {g : Int} (hg : 0 ≤ g) (s : List Int × List Int) (k : Int) : unl (visit fr g s k).1 + (visit fr g s k).2.length = unl s.1 + s.2.length := by
  unfold visit
  split
  · rename_i h
    have := unl_set h.2 hg
    simp only [List.length_append, List.length_cons, List.length_nil]
    omega
  · rfl
theorem visits_sum {fr : Int → Bool} {g : Int} (hg : 0 ≤ g) (ks : List Int) : ∀ s : List Int × List Int, unl (ks.foldl (visit fr g) s).1 + (ks.foldl (visit fr g) s).2.length = unl s.1 + s.2.length := by
  induction ks with
  | nil => intro s; rfl
  | cons a r ih => intro s; rw [List.foldl_cons, ih, visit_sum hg]

/-- what is ahead of the list stays ahead -/
theorem visit_pre (fr : Int → Bool) (g : Int) (out a p : List Int) (k : Int) : visit fr g (out, a ++ p) k = ((visit fr g (out, p) k).1, a ++ (visit fr g (out, p) k).2) := by
  unfold visit; split <;> simp [*]
theorem visits_pre (fr : Int → Bool) (g : Int) (ks : List Int) : ∀ (out a p : List Int), ks.foldl (visit fr g) (out, a ++ p) = ((ks.foldl (visit fr g) (out, p)).1, a ++ (ks.foldl (visit fr g) (out, p)).2) := by
  induction ks with
  | nil => intro out a p; rfl
  | cons x r ih =>
    intro out a p
    rw [List.foldl_cons, List.foldl_cons, visit_pre, ih]

theorem visits_snoc (fr : Int → Bool) (g : Int) (ks : List Int) (s : List Int × List Int) (m : Nat) (h : m < ks.length) : (ks.take (m + 1)).foldl (visit fr g) s = visit fr g ((ks.take m).foldl (visit fr g) s) ks[m] := by
  rw [List.take_succ_eq_append_getElem h, List.foldl_append]; rfl

theorem set_get {out : List Int} {k : Nat} {g : Int} (j : Nat) : (out.set k g).getD j 0 = if k = j ∧ k < out.length then g else out.getD j 0 := by
  simp only [List.getD_eq_getElem?_getD, List.getElem?_set]
  by_cases h : k = j
  · subst h
    by_cases h2 : k < out.length
    · simp [h2]
    · simp [h2]
  · simp [h]

/-- labels in the midst of a flood from cell i; the cells of pend have yet to be looked around at -/
structure Flood (nbf : Int → List Int) (fr : Int → Bool) (out0 : List Int) (i g : Int) (out pend : List Int) : Prop where
  len : out.length = out0.length
  old : ∀ k : Int, 0 ≤ k → k < out0.length → out.getD k.toNat 0 = out0.getD k.toNat 0 ∨ (out.getD k.toNat 0 = g ∧ noL out0 k = true ∧ Leads nbf fr out0 i k)
  start : out.getD i.toNat 0 = g
  pends : ∀ k ∈ pend, 0 ≤ k ∧ k < out0.length ∧ out.getD k.toNat 0 = g ∧ Leads nbf fr out0 i k
  done : ∀ j : Int, 0 ≤ j → j < out0.length → noL out0 j = true → out.getD j.toNat 0 = g → j ∉ pend → ∀ k ∈ nbf j, fr k = true → noL out k = false

section
variable {nbf : Int → List Int} {fr : Int → Bool} {out0 out pend : List Int} {i g : Int}

theorem flood_start (h0 : 0 ≤ i) (hi : noL out0 i = true) (hg : 0 ≤ g) : Flood nbf fr out0 i g (out0.set i.toNat g) [i] := by
  have hl := noL_lt hi
  refine ⟨by simp, ?_, ?_, ?_, ?_⟩
  · intro k k0 k1
    rw [set_get]
    by_cases e : i.toNat = k.toNat
    · right
      obtain rfl : i = k := by omega
      exact ⟨by rw [if_pos ⟨rfl, hl⟩], hi, .here⟩
    · left; rw [if_neg (fun h => e h.1)]
  · rw [set_get, if_pos ⟨rfl, hl⟩]
  · intro k hk
    simp at hk
    subst hk
    exact ⟨h0, by omega, by rw [set_get, if_pos ⟨rfl, hl⟩], .here⟩
  · intro j j0 j1 hn hj hp
    exfalso
    rw [set_get] at hj
    have hne : i ≠ j := by rintro rfl; simp at hp
    rw [if_neg (by rintro ⟨h, _⟩; omega)] at hj
    unfold noL at hn
    rw [decide_eq_true_eq] at hn
    omega

/-- one side of a cell that is pending is looked at -/
theorem flood_visit (hg : 0 ≤ g) {a k : Int} (hnb : ∀ k ∈ nbf a, 0 ≤ k ∧ k < out0.length) (h : Flood nbf fr out0 i g out (a :: pend)) (hk : k ∈ nbf a) :
    Flood nbf fr out0 i g (visit fr g (out, pend) k).1 (a :: (visit fr g (out, pend) k).2) ∧ (fr k = true → noL (visit fr g (out, pend) k).1 k = false) ∧ ∀ x, noL out x = false → noL (visit fr g (out, pend) k).1 x = false := by
  obtain ⟨k0, k1⟩ := hnb k hk
  have hkl : k.toNat < out.length := by rw [h.len]; omega
  unfold visit
  split
  · rename_i hv
    obtain ⟨hf, hn⟩ := hv
    simp only at hn ⊢
    have hmono : ∀ x, noL out x = false → noL (out.set k.toNat g) x = false := by
      intro x hx
      unfold noL at hx ⊢
      rw [decide_eq_false_iff_not] at hx ⊢
      rw [set_get]
      split
      · omega
      · exact hx
    have hno0 : noL out0 k = true := by
      rcases h.old k k0 k1 with e | ⟨e, _, _⟩
      · unfold noL at hn ⊢; rwa [← e]
      · unfold noL at hn; rw [decide_eq_true_eq, e] at hn; omega
    have hL : Leads nbf fr out0 i k := .step (h.pends a List.mem_cons_self).2.2.2 hk hf hno0
    refine ⟨⟨by simp [h.len], ?_, ?_, ?_, ?_⟩, ?_, hmono⟩
    · intro x x0 x1
      rw [set_get]
      by_cases e : k.toNat = x.toNat
      · obtain rfl : k = x := by omega
        right; exact ⟨by rw [if_pos ⟨rfl, hkl⟩], hno0, hL⟩
      · rw [if_neg (fun h => e h.1)]; exact h.old x x0 x1
    · rw [set_get]; split
      · rfl
      · exact h.start
    · intro x hx
      rw [List.mem_cons, List.mem_append, List.mem_singleton] at hx
      have hx' : x ∈ a :: pend ∨ x = k := by
        rcases hx with hx | hx | hx
        · exact .inl (by rw [hx]; exact List.mem_cons_self)
        · exact .inl (List.mem_cons_of_mem _ hx)
        · exact .inr hx
      rcases hx' with hx | rfl
      · obtain ⟨b0, b1, b2, b3⟩ := h.pends x hx
        refine ⟨b0, b1, ?_, b3⟩
        rw [set_get]; split
        · rfl
        · exact b2
      · exact ⟨k0, k1, by rw [set_get, if_pos ⟨rfl, hkl⟩], hL⟩
    · intro j j0 j1 hj hjg hjp x hx hfx
      have hjk : j ≠ k := by rintro rfl; exact hjp (by simp)
      have hjp2 : j ∉ a :: pend := by
        intro hm
        rw [List.mem_cons] at hm
        apply hjp
        rw [List.mem_cons, List.mem_append]
        rcases hm with hm | hm
        · exact .inl hm
        · exact .inr (.inl hm)
      rw [set_get, if_neg (by rintro ⟨e, _⟩; omega)] at hjg
      exact hmono x (h.done j j0 j1 hj hjg hjp2 x hx hfx)
    · intro _
      unfold noL
      rw [decide_eq_false_iff_not, set_get, if_pos ⟨rfl, hkl⟩]
      omega
  · rename_i hv
    refine ⟨h, ?_, fun _ h => h⟩
    intro hf
    cases hb : noL out k
    · rfl
    · exact absurd ⟨hf, hb⟩ hv

theorem flood_visits (hg : 0 ≤ g) {a : Int} (hnb : ∀ k ∈ nbf a, 0 ≤ k ∧ k < out0.length) : ∀ (ks : List Int) (out pend : List Int), (∀ k ∈ ks, k ∈ nbf a) → Flood nbf fr out0 i g out (a :: pend) →
    Flood nbf fr out0 i g (ks.foldl (visit fr g) (out, pend)).1 (a :: (ks.foldl (visit fr g) (out, pend)).2) ∧ (∀ k ∈ ks, fr k = true → noL (ks.foldl (visit fr g) (out, pend)).1 k = false) ∧ ∀ x, noL out x = false → noL (ks.foldl (visit fr g) (out, pend)).1 x = false := by
  intro ks
  induction ks with
  | nil => intro out pend _ h; exact ⟨h, fun k hk => by simp at hk, fun _ h => h⟩
  | cons b r ih =>
    intro out pend hks h
    obtain ⟨h1, h2, h3⟩ := flood_visit hg hnb h (hks b List.mem_cons_self)
    obtain ⟨i1, i2, i3⟩ := ih _ _ (fun k hk => hks k (List.mem_cons_of_mem _ hk)) h1
    rw [List.foldl_cons]
    refine ⟨i1, ?_, fun x hx => i3 x (h3 x hx)⟩
    intro k hk hf
    rw [List.mem_cons] at hk
    rcases hk with rfl | hk
    · exact i3 _ (h2 hf)
    · exact i2 k hk hf

/-- a pending cell has been looked around at -/
theorem flood_step (hg : 0 ≤ g) {a : Int} (hnb : ∀ k ∈ nbf a, 0 ≤ k ∧ k < out0.length) (h : Flood nbf fr out0 i g out (a :: pend)) :
    Flood nbf fr out0 i g ((nbf a).foldl (visit fr g) (out, pend)).1 ((nbf a).foldl (visit fr g) (out, pend)).2 := by
  obtain ⟨h1, h2, _⟩ := flood_visits hg hnb (nbf a) out pend (fun _ h => h) h
  refine ⟨h1.len, h1.old, h1.start, fun k hk => h1.pends k (List.mem_cons_of_mem _ hk), ?_⟩
  intro j j0 j1 hj hjg hjp k hk hf
  by_cases e : j = a
  · subst e; exact h2 k hk hf
  · exact h1.done j j0 j1 hj hjg (by rw [List.mem_cons]; rintro (h | h); exact e h; exact hjp h) k hk hf
theorem Flood.perm {p q : List Int} (h : Flood nbf fr out0 i g out p) (hpq : ∀ x, x ∈ p ↔ x ∈ q) : Flood nbf fr out0 i g out q :=
  ⟨h.len, h.old, h.start, fun k hk => h.pends k ((hpq k).2 hk), fun j j0 j1 hj hjg hjp => h.done j j0 j1 hj hjg (fun hm => hjp ((hpq j).1 hm))⟩

open Classical in
/-- the labels when the flood from cell i is over -/
noncomputable def fillC (nbf : Int → List Int) (fr : Int → Bool) (out0 : List Int) (i g : Int) : List Int :=
  (List.range out0.length).map fun (j : Nat) => if Leads nbf fr out0 i (j : Int) then g else out0.getD j 0

theorem fillC_len (nbf : Int → List Int) (fr : Int → Bool) (out0 : List Int) (i g : Int) : (fillC nbf fr out0 i g).length = out0.length := by simp [fillC]
theorem fillC_get {j : Nat} (h : j < out0.length) : (fillC nbf fr out0 i g).getD j 0 = g ∨ (fillC nbf fr out0 i g).getD j 0 = out0.getD j 0 := by
  classical
  unfold fillC
  rw [List.getD_eq_getElem?_getD, List.getElem?_map, List.getElem?_range h]
  simp only [Option.map_some, Option.getD_some]
  split
  · left; rfl
  · right; rfl

theorem flood_end (h0 : 0 ≤ i) (hi : noL out0 i = true) (_hg : 0 ≤ g) (hnb : ∀ j : Int, 0 ≤ j → j < out0.length → ∀ k ∈ nbf j, 0 ≤ k ∧ k < out0.length) (h : Flood nbf fr out0 i g out []) : out = fillC nbf fr out0 i g := by
  classical
  have hil := noL_lt hi
  have key : ∀ k, Leads nbf fr out0 i k → 0 ≤ k ∧ k < out0.length ∧ noL out0 k = true ∧ out.getD k.toNat 0 = g := by
    intro k hk
    induction hk with
    | here => exact ⟨h0, by omega, hi, h.start⟩
    | step hj hk hf hn ih =>
      obtain ⟨j0, j1, j2, j3⟩ := ih
      obtain ⟨k0, k1⟩ := hnb _ j0 j1 _ hk
      refine ⟨k0, k1, hn, ?_⟩
      have hd := h.done _ j0 j1 j2 j3 (by simp) _ hk hf
      rcases h.old _ k0 k1 with e | ⟨e, _⟩
      · unfold noL at hd hn
        rw [decide_eq_true_eq] at hn
        rw [decide_eq_false_iff_not, e] at hd
        omega
      · exact e
  apply List.ext_getElem
  · rw [fillC_len, h.len]
  · intro j h1 h2
    have hj : j < out0.length := by rw [← h.len]; exact h1
    have e1 : out[j] = out.getD j 0 := by rw [List.getD_eq_getElem?_getD, List.getElem?_eq_getElem h1]; rfl
    have e2 : (fillC nbf fr out0 i g)[j] = if Leads nbf fr out0 i (j : Int) then g else out0.getD j 0 := by
      unfold fillC; simp
    rw [e1, e2]
    split
    · rename_i hl
      have := (key _ hl).2.2.2
      simpa using this
    · rename_i hl
      rcases h.old (j : Int) (by omega) (by omega) with e | ⟨_, _, e⟩
      · simpa using e
      · exact absurd e hl

/-- the labels of the first k cells' groups, and how many groups there are -/
noncomputable def grp (nbf : Int → List Int) (fr : Int → Bool) (n : Nat) : Nat → List Int × Nat
  | 0 => (List.replicate n (-1), 0)
  | k + 1 => if fr k = true ∧ noL (grp nbf fr n k).1 k = true then (fillC nbf fr (grp nbf fr n k).1 k (grp nbf fr n k).2, (grp nbf fr n k).2 + 1) else grp nbf fr n k
theorem grp_yes {n k : Nat} (h : fr k = true) (h' : noL (grp nbf fr n k).1 k = true) : grp nbf fr n (k + 1) = (fillC nbf fr (grp nbf fr n k).1 k (grp nbf fr n k).2, (grp nbf fr n k).2 + 1) := by
  conv => lhs; unfold grp
  rw [if_pos ⟨h, h'⟩]
theorem grp_no {n k : Nat} (h : fr k = false ∨ noL (grp nbf fr n k).1 k = false) : grp nbf fr n (k + 1) = grp nbf fr n k := by
  conv => lhs; unfold grp
  rw [if_neg]
  rintro ⟨h1, h2⟩; rcases h with h | h <;> simp_all
theorem grp_len (nbf : Int → List Int) (fr : Int → Bool) (n k : Nat) : (grp nbf fr n k).1.length = n := by
  induction k with
  | zero => simp [grp]
  | succ k ih => unfold grp; split <;> simp [fillC_len, ih]
theorem grp_le (nbf : Int → List Int) (fr : Int → Bool) (n k : Nat) : (grp nbf fr n k).2 ≤ k := by
  induction k with
  | zero => simp [grp]
  | succ k ih =>
    unfold grp
    split
    · show _ + 1 ≤ _; omega
    · omega
theorem grp_bd (nbf : Int → List Int) (fr : Int → Bool) (n k : Nat) : ∀ j, j < n → -1 ≤ (grp nbf fr n k).1.getD j 0 ∧ (grp nbf fr n k).1.getD j 0 < (grp nbf fr n k).2 := by
  induction k with
  | zero => intro j hj; simp [grp, List.getD_eq_getElem?_getD, hj]
  | succ k ih =>
    intro j hj
    have := ih j hj
    unfold grp
    split
    · have hl := grp_len nbf fr n k
      rcases fillC_get (nbf := nbf) (fr := fr) (i := (k : Int)) (g := ((grp nbf fr n k).2 : Int)) (out0 := (grp nbf fr n k).1) (j := j) (by omega) with e | e
      · simp only; rw [e]; omega
      · simp only; rw [e]; omega
    · exact this

/-- which groups have a cell among the first k that lies at the edge -/
def edgesK (cond : Int → Bool) (out : List Int) (c : Nat) : Nat → List Bool
  | 0 => List.replicate c false
  | k + 1 => if 0 ≤ out.getD k 0 ∧ cond k = true then (edgesK cond out c k).set (out.getD k 0).toNat true else edgesK cond out c k
theorem edgesK_yes {cond : Int → Bool} {out : List Int} {c k : Nat} (h : 0 ≤ out.getD k 0) (h' : cond k = true) : edgesK cond out c (k + 1) = (edgesK cond out c k).set (out.getD k 0).toNat true := by
  conv => lhs; unfold edgesK
  rw [if_pos ⟨h, h'⟩]
theorem edgesK_no {cond : Int → Bool} {out : List Int} {c k : Nat} (h : ¬ (0 ≤ out.getD k 0) ∨ cond k = false) : edgesK cond out c (k + 1) = edgesK cond out c k := by
  conv => lhs; unfold edgesK
  rw [if_neg]
  rintro ⟨h1, h2⟩; rcases h with h | h <;> simp_all
theorem edgesK_len (cond : Int → Bool) (out : List Int) (c k : Nat) : (edgesK cond out c k).length = c := by
  induction k with
  | zero => simp [edgesK]
  | succ k ih => unfold edgesK; split <;> simp [ih]
theorem edgesK_eq {cond cond' : Int → Bool} {out : List Int} {c k : Nat} (h : ∀ j : Nat, j < k → cond j = cond' j) : edgesK cond out c k = edgesK cond' out c k := by
  induction k with
  | zero => rfl
  | succ k ih =>
    unfold edgesK
    rw [ih (fun j hj => h j (by omega)), h k (by omega)]
/-- how many are false -/
def cntF (l : List Bool) : Nat := l.count false
theorem cntF_snoc {l : List Bool} {k : Nat} (h : k < l.length) : cntF (l.take (k + 1)) = cntF (l.take k) + if l[k] = false then 1 else 0 := by
  unfold cntF
  rw [List.take_succ_eq_append_getElem h, List.count_append]
  cases l[k] <;> rfl
theorem cntF_le (l : List Bool) : cntF l ≤ l.length := List.count_le_length
end
end Go.Proofs.Ytbefcfdmaafghaa
