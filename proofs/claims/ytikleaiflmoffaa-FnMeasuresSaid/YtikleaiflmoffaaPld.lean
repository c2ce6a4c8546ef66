/- Masses, distances of sets, shares of pairs. Plain. -/
import Derived.Test.YtikleaiflmoffaaPlc
namespace Go.Proofs.Ytikleaiflmoffaa
open Ieee Go.RowKit
theorem mass_pos {P : List (Int × Int)} {q : Int × Int} {r : Nat} (hq : q ∈ P) (hr : Is .f32 r) (h0 : 0 ≤ vl .f32 r) : 1 ≤ massN P q r := by
  unfold massN
  refine List.countP_pos_iff.2 ⟨q, hq, ?_⟩
  rw [far_self, leF_v zero_is.1 hr, zero_is.2]
  exact decide_eq_true h0
theorem count_mono {P : List (Int × Int)} {f g : Int × Int → Bool} (h : ∀ p ∈ P, f p = true → g p = true) : P.countP f ≤ P.countP g := by
  induction P with
  | nil => simp
  | cons p P ih =>
    have h1 := ih (fun q hq => h q (List.mem_cons_of_mem _ hq))
    have h2 := h p List.mem_cons_self
    rw [List.countP_cons, List.countP_cons]
    cases hf : f p
    · simp; omega
    · rw [h2 hf]; simp; omega
theorem leF_mono {x r r' : Nat} (hx : Is .f32 x) (hr : Is .f32 r) (hr' : Is .f32 r') (h : vl .f32 r ≤ vl .f32 r') (h1 : leF x r = true) : leF x r' = true := by
  rw [leF_v hx hr, decide_eq_true_eq] at h1
  rw [leF_v hx hr']
  exact decide_eq_true (by grind)
theorem mass_mono {P : List (Int × Int)} {q : Int × Int} {r r' n : Nat} (hP : Pts P n) (hq : Pt q) (hr : Is .f32 r) (hr' : Is .f32 r') (h : vl .f32 r ≤ vl .f32 r') : massN P q r ≤ massN P q r' :=
  count_mono fun p hp h1 => leF_mono (far_v (hP.pt p hp) hq).1 hr hr' h h1
theorem mass_all {P : List (Int × Int)} {q : Int × Int} {r n : Nat} (hP : Pts P n) (hq : Pt q) (hr : Is .f32 r) (h : 6 ≤ vl .f32 r) : massN P q r = n := by
  unfold massN
  rw [← hP.len, List.countP_eq_length]
  intro p hp
  have hv := far_v (hP.pt p hp) hq
  rw [leF_v hv.1 hr]
  exact decide_eq_true (by grind)
theorem nr_le {z : Int × Int} (hz : Pt z) : ∀ (P : List (Int × Int)) (f : Nat), (∀ p ∈ P, Pt p) → NN f → vl .f32 (P.foldl (nrS z) f) ≤ vl .f32 f ∧ ∀ p ∈ P, vl .f32 (P.foldl (nrS z) f) ≤ vl .f32 (farF z p) := by
  intro P
  induction P with
  | nil => intro f _ _; exact ⟨Rat.le_refl, fun p hp => by cases hp⟩
  | cons p P ih =>
    intro f h hf
    have hfp := far_nn hz (h p List.mem_cons_self)
    have hs : NN (nrS z f p) ∧ vl .f32 (nrS z f p) ≤ vl .f32 f ∧ vl .f32 (nrS z f p) ≤ vl .f32 (farF z p) := by
      unfold nrS
      rw [ltF_v hfp.1 hf.1]
      by_cases hl : vl .f32 (farF z p) < vl .f32 f
      · rw [decide_eq_true hl, if_pos rfl]
        exact ⟨hfp, Rat.le_of_lt hl, Rat.le_refl⟩
      · rw [decide_eq_false hl, if_neg (by decide)]
        exact ⟨hf, Rat.le_refl, by grind⟩
    obtain ⟨i1, i2⟩ := ih (nrS z f p) (fun q hq => h q (List.mem_cons_of_mem _ hq)) hs.1
    rw [List.foldl_cons]
    refine ⟨by grind, fun q hq => ?_⟩
    rcases List.mem_cons.1 hq with rfl | hq
    · grind
    · exact i2 q hq
theorem near_zero {P : List (Int × Int)} {n : Nat} {z : Int × Int} (hP : Pts P n) (h1 : 1 ≤ n) (hz : z ∈ P) : vl .f32 (nearF P z) = 0 := by
  have hpz := hP.pt z hz
  have h0 : Pt (P.getD 0 (0, 0)) := by cases n with
    | zero => omega
    | succ n => exact (getD_pt hP (k := 0) (by omega)).1
  have h := (nr_le hpz P _ hP.pt (far_nn hpz h0)).2 z hz
  have hn := (near_nn hP h1 hpz).2
  rw [far0_v] at h
  unfold nearF at hn ⊢
  grind
theorem st_zero {b : List (Int × Int)} {n : Nat} (hb : Pts b n) (h1 : 1 ≤ n) : ∀ (a : List (Int × Int)) (o : Nat), (∀ z ∈ a, z ∈ b) → NN o → vl .f32 o = 0 → vl .f32 (a.foldl (stS b) o) = 0 := by
  intro a
  induction a with
  | nil => intro o _ _ h; exact h
  | cons z a ih =>
    intro o h ho h0
    have hz := h z List.mem_cons_self
    have hn := near_nn hb h1 (hb.pt z hz)
    have hv := near_zero hb h1 hz
    refine ih _ (fun q hq => h q (List.mem_cons_of_mem _ hq)) (fmax_nn ho hn) ?_
    obtain ⟨_, f2, f3, f4⟩ := fmax_v ho.1 hn.1
    show vl .f32 (fmax .f32 o (nearF b z)) = 0
    rcases f4 with h | h <;> grind
/-- a set's distance from itself -/
theorem set_self {P : List (Int × Int)} {n : Nat} (hP : Pts P n) (h1 : 1 ≤ n) : Is .f32 (setF P P) ∧ vl .f32 (setF P P) = 0 := by
  have a := st_nn hP h1 P 0 hP.pt zero_nn
  have b := st_zero hP h1 P 0 (fun _ h => h) zero_nn zero_is.2
  have c := st_nn hP h1 P _ hP.pt a
  exact ⟨c.1, st_zero hP h1 P _ (fun _ h => h) a b⟩
/-- the farthest from the first -/
def farMax (p0 : Int × Int) (P : List (Int × Int)) : Nat := P.foldl (fun o z => fmax .f32 o (farF z p0)) 0
theorem near_one (p0 z : Int × Int) : nearF [p0] z = farF z p0 := by
  unfold nearF nrS
  simp
theorem nr_keep {p0 : Int × Int} (h0 : Pt p0) : ∀ P : List (Int × Int), (∀ p ∈ P, Pt p) → P.foldl (nrS p0) 0 = 0 := by
  intro P
  induction P with
  | nil => intro _; rfl
  | cons p P ih =>
    intro h
    have hf := far_nn h0 (h p List.mem_cons_self)
    have hs : nrS p0 0 p = 0 := by
      unfold nrS
      rw [ltF_v hf.1 zero_is.1, zero_is.2, decide_eq_false (by have := hf.2; grind), if_neg (by decide)]
    rw [List.foldl_cons, hs]
    exact ih (fun q hq => h q (List.mem_cons_of_mem _ hq))
theorem near_first {P : List (Int × Int)} {m : Nat} (hP : Pts P (m + 1)) : nearF P (P.getD 0 (0, 0)) = 0 := by
  unfold nearF
  rw [far_self]
  exact nr_keep (getD_pt hP (k := 0) (by omega)).1 P hP.pt
theorem fmax_00 : fmax .f32 0 0 = 0 := by decide +kernel
theorem far_fold (p0 : Int × Int) : ∀ (P : List (Int × Int)) (o : Nat), P.foldl (stS [p0]) o = P.foldl (fun o z => fmax .f32 o (farF z p0)) o := by
  intro P
  induction P with
  | nil => intro o; rfl
  | cons z P ih =>
    intro o
    rw [List.foldl_cons, List.foldl_cons, ih]
    unfold stS
    rw [near_one]
theorem set_one {P : List (Int × Int)} {m : Nat} (hP : Pts P (m + 1)) : setF [P.getD 0 (0, 0)] P = farMax (P.getD 0 (0, 0)) P := by
  unfold setF farMax
  rw [far_fold]
  congr 1
  show stS P 0 (P.getD 0 (0, 0)) = 0
  unfold stS
  rw [near_first hP, fmax_00]
theorem farMax_nn {P : List (Int × Int)} {m : Nat} (hP : Pts P (m + 1)) : NN (farMax (P.getD 0 (0, 0)) P) := by
  have h0 := (getD_pt hP (k := 0) (by omega)).1
  have hp : Pts [P.getD 0 (0, 0)] 1 := ⟨rfl, fun p hp => by simp at hp; rw [hp]; simpa using h0⟩
  have h := st_nn hp (Nat.le_refl _) P 0 hP.pt zero_nn
  rw [far_fold] at h
  exact h
theorem one_set {P : List (Int × Int)} {m : Nat} (hP : Pts P (m + 1)) : Is .f32 (setF P [P.getD 0 (0, 0)]) ∧ vl .f32 (setF P [P.getD 0 (0, 0)]) = vl .f32 (farMax (P.getD 0 (0, 0)) P) := by
  have hn := farMax_nn hP
  have e : setF P [P.getD 0 (0, 0)] = fmax .f32 (farMax (P.getD 0 (0, 0)) P) 0 := by
    unfold setF farMax
    rw [far_fold]
    show stS P _ (P.getD 0 (0, 0)) = _
    unfold stS
    rw [near_first hP]
  obtain ⟨f1, f2, f3, f4⟩ := fmax_v hn.1 zero_is.1
  rw [e]
  refine ⟨f1, ?_⟩
  have h2 := hn.2
  rw [zero_is.2] at f3 f4
  rcases f4 with h | h <;> grind
/-- shares -/
def shF (a N : Nat) : Nat := fop .quo .f32 (floatOfInt .f32 (a : Int)) (floatOfInt .f32 (N : Int))
def shB (N a : Nat) : Bool := (floatBits .quo .f32 (floatOfInt .f32 (a : Int)) (floatOfInt .f32 (N : Int)) == some (shF a N)) && (finB (shF a N) && (decide (0 ≤ vl .f32 (shF a N)) && (decide (vl .f32 (shF a N) ≤ 1) && (decide (N ≤ a) || decide (vl .f32 (shF a N) ≤ vl .f32 (shF (a + 1) N))))))
theorem sh_all : ((List.range 13).all fun n => decide (n < 2) || (List.range (alN n + 1)).all (shB (alN n))) = true := by decide +kernel
structure ShOk (a N : Nat) : Prop where
  quo : floatBits .quo .f32 (floatOfInt .f32 (a : Int)) (floatOfInt .f32 (N : Int)) = some (shF a N)
  is : Is .f32 (shF a N)
  ge : 0 ≤ vl .f32 (shF a N)
  le : vl .f32 (shF a N) ≤ 1
  up : a < N → vl .f32 (shF a N) ≤ vl .f32 (shF (a + 1) N)
theorem sh_ok {n a : Nat} (h1 : 2 ≤ n) (h2 : n ≤ 12) (ha : a ≤ alN n) : ShOk a (alN n) := by
  have h := all_lt sh_all (j := n) (by omega)
  rw [decide_eq_false (show ¬ n < 2 by omega), Bool.false_or] at h
  have h := all_lt h (j := a) (by omega)
  unfold shB at h
  simp only [Bool.and_eq_true, Bool.or_eq_true, beq_iff_eq, decide_eq_true_eq] at h
  obtain ⟨b1, b2, b3, b4, b5⟩ := h
  exact ⟨b1, is_fin b2, b3, b4, fun hlt => by rcases b5 with h | h; omega; exact h⟩
theorem sh_mono {n a b : Nat} (h1 : 2 ≤ n) (h2 : n ≤ 12) (hab : a ≤ b) (hb : b ≤ alN n) : vl .f32 (shF a (alN n)) ≤ vl .f32 (shF b (alN n)) := by
  induction b with
  | zero => rw [show a = 0 by omega]; exact Rat.le_refl
  | succ b ih =>
    by_cases h : a = b + 1
    · rw [h]; exact Rat.le_refl
    · have i := ih (by omega) (by omega)
      have u := (sh_ok h1 h2 (a := b) (by omega)).up (by omega)
      grind
theorem pr_mono {P : List (Int × Int)} {n r r' : Nat} (hP : Pts P n) (hr : Is .f32 r) (hr' : Is .f32 r') (h : vl .f32 r ≤ vl .f32 r') : ∀ k, k ≤ n → prN P r k ≤ prN P r' k := by
  intro k
  induction k with
  | zero => intro _; exact Nat.le_refl _
  | succ k ih =>
    intro hk
    have i := ih (by omega)
    have hp := (getD_pt hP (k := k) (by omega)).1
    have hc := count_mono (P := P.take k) (f := fun q => leF (farF (P.getD k (0, 0)) q) r) (g := fun q => leF (farF (P.getD k (0, 0)) q) r') (fun q hq h1 => leF_mono (far_v hp (take_pts hP k q hq)).1 hr hr' h h1)
    unfold prN
    omega
end Go.Proofs.Ytikleaiflmoffaa
