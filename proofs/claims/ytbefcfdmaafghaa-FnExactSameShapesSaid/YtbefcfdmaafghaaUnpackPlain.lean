/- The cells of runs, both ways, on plain lists: no program. -/
import Derived.Test.YtbefcfdmaafghaaPackPlain
namespace Go.Proofs.Ytbefcfdmaafghaa
/-- the program's way: it ends as soon as there are too many, or a run is broken off -/
def unI : List Nat → Bool → List Bool → Option (List Bool)
  | [], _, out => some out
  | [x], b, out => if x = 255 then none else if 256 < out.length + x then none else some (out ++ List.replicate x b)
  | x :: m :: r, b, out =>
    if x = 255 then (if 256 < out.length + (255 + m) then none else unI r (!b) (out ++ List.replicate (255 + m) b))
    else (if 256 < out.length + x then none else unI (m :: r) (!b) (out ++ List.replicate x b))
/-- the reference's way: it ends behind too many, and takes a run that is broken off -/
def unS : List Nat → Bool → List Bool → List Bool
  | [], _, out => out
  | [x], b, out => if 256 < out.length then out else out ++ List.replicate x b
  | x :: m :: r, b, out =>
    if 256 < out.length then out
    else if x = 255 then unS r (!b) (out ++ List.replicate (255 + m) b)
    else unS (m :: r) (!b) (out ++ List.replicate x b)
theorem unS_big (l : List Nat) (b : Bool) (out : List Bool) (h : 256 < out.length) : unS l b out = out := by
  match l with
  | [] => rfl
  | [x] => simp [unS, h]
  | x :: m :: r => simp [unS, h]
/-- no run is broken off -/
def tok : List Nat → Bool
  | [] => true
  | [x] => decide (x ≠ 255)
  | x :: m :: r => if x = 255 then tok r else tok (m :: r)
/-- the bytes of a run, as numbers -/
def runN (r : Nat) : List Nat := if r < 255 then [r] else [255, r - 255]
theorem runB_runN {r : Nat} : runB r = (runN r).map fun n : Nat => (n : Int) := by
  unfold runB runN
  split
  · rfl
  · simp; omega
def packN : Nat → Bool → List Bool → List Nat
  | 0, _, _ => []
  | f + 1, b, l => if l = [] then [] else runN (lead b l) ++ packN f (!b) (l.drop (lead b l))
theorem packF_packN (f : Nat) : ∀ (b : Bool) (l : List Bool), packF f b l = (packN f b l).map fun n : Nat => (n : Int) := by
  induction f with
  | zero => intro b l; rfl
  | succ f ih =>
    intro b l
    simp only [packF, packN]
    split
    · rfl
    · rw [List.map_append, ← runB_runN, ih]
theorem tok_run {r : Nat} (l : List Nat) : tok (runN r ++ l) = tok l := by
  unfold runN
  split
  · rename_i h
    cases l with
    | nil => simp [tok]; omega
    | cons m q => simp [tok]; omega
  · rename_i h
    simp [tok]
theorem tok_pack (f : Nat) : ∀ (b : Bool) (l : List Bool), tok (packN f b l) = true := by
  induction f with
  | zero => intro b l; rfl
  | succ f ih =>
    intro b l
    simp only [packN]
    split
    · rfl
    · rw [tok_run, ih]
/-- where the program finds cells the reference finds the same; where it finds none, the reference has too many, or the text is broken off -/
theorem un_rel (l : List Nat) : ∀ (b : Bool) (out : List Bool), out.length ≤ 256 →
    (∀ o, unI l b out = some o → unS l b out = o ∧ o.length ≤ 256) ∧ (unI l b out = none → 256 < (unS l b out).length ∨ tok l = false) := by
  match l with
  | [] =>
    intro b out h
    exact ⟨fun o ho => by simp [unI] at ho; subst ho; exact ⟨rfl, h⟩, fun hn => by simp [unI] at hn⟩
  | [x] =>
    intro b out h
    have hn : ¬ 256 < out.length := by omega
    refine ⟨fun o ho => ?_, fun hx => ?_⟩
    · simp only [unI] at ho
      split at ho
      · cases ho
      · split at ho
        · cases ho
        · have ho := Option.some.inj ho
          subst ho
          exact ⟨by simp [unS, hn], by simp; omega⟩
    · simp only [unI] at hx
      split at hx
      · rename_i h255
        right; simp [tok, h255]
      · split at hx
        · left; simp [unS, hn]; omega
        · cases hx
  | x :: m :: r =>
    intro b out h
    have hn : ¬ 256 < out.length := by omega
    by_cases h255 : x = 255
    · have e1 : unS (x :: m :: r) b out = unS r (!b) (out ++ List.replicate (255 + m) b) := by simp [unS, hn, h255]
      have e2 : tok (x :: m :: r) = tok r := by simp [tok, h255]
      rw [e1, e2]
      by_cases hbig : 256 < out.length + (255 + m)
      · have e3 : unI (x :: m :: r) b out = none := by simp only [unI]; rw [if_pos h255, if_pos hbig]
        rw [e3]
        refine ⟨fun o ho => (by cases ho), fun _ => .inl ?_⟩
        rw [unS_big _ _ _ (by simp; omega)]
        simp; omega
      · have e3 : unI (x :: m :: r) b out = unI r (!b) (out ++ List.replicate (255 + m) b) := by simp only [unI]; rw [if_pos h255, if_neg hbig]
        rw [e3]
        exact un_rel r (!b) _ (by simp; omega)
    · have e1 : unS (x :: m :: r) b out = unS (m :: r) (!b) (out ++ List.replicate x b) := by simp [unS, hn, h255]
      have e2 : tok (x :: m :: r) = tok (m :: r) := by simp [tok, h255]
      rw [e1, e2]
      by_cases hbig : 256 < out.length + x
      · have e3 : unI (x :: m :: r) b out = none := by simp only [unI]; rw [if_neg h255, if_pos hbig]
        rw [e3]
        refine ⟨fun o ho => (by cases ho), fun _ => .inl ?_⟩
        rw [unS_big _ _ _ (by simp; omega)]
        simp; omega
      · have e3 : unI (x :: m :: r) b out = unI (m :: r) (!b) (out ++ List.replicate x b) := by simp only [unI]; rw [if_neg h255, if_neg hbig]
        rw [e3]
        exact un_rel (m :: r) (!b) _ (by simp; omega)
termination_by l.length
/-- what both give in the end -/
def unI2 (l : List Nat) : Option (List Bool) := match unI l false [] with
  | some o => if packN (2 * o.length + 1) false o = l then some o else none
  | none => none
def unS2 (l : List Nat) : Option (List Bool) := if 256 < (unS l false []).length then none else if packN (2 * (unS l false []).length + 1) false (unS l false []) = l then some (unS l false []) else none
theorem un_same (l : List Nat) : unI2 l = unS2 l := by
  obtain ⟨h1, h2⟩ := un_rel l false [] (by simp)
  unfold unI2 unS2
  cases h : unI l false [] with
  | some o =>
    obtain ⟨e, hle⟩ := h1 o h
    rw [e, if_neg (by omega)]
  | none =>
    rcases h2 h with hb | ht
    · rw [if_pos hb]
    · by_cases hb : 256 < (unS l false []).length
      · rw [if_pos hb]
      · rw [if_neg hb, if_neg]
        intro he
        have := tok_pack (2 * (unS l false []).length + 1) false (unS l false [])
        rw [he, ht] at this
        cases this
end Go.Proofs.Ytbefcfdmaafghaa
