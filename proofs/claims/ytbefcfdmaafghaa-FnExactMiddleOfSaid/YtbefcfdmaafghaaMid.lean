/- The numbers of the middle of a field's full cells: none of them is a NaN but for the last root. -/
import Derived.Test.YtbefcfdmaafghaaFins
import Derived.Test.YtbefcfdmaafghaaCount
namespace Go.Proofs.Ytbefcfdmaafghaa
open Ieee Go.RowKit
theorem some_of {op : BinOp} {k : FloatKind} {x y r : Nat} (h : floatBits op k x y = some r) : floatBits op k x y = some (fop op k x y) := by rw [fop_some h]; exact h
theorem add_is {k : FloatKind} {x y : Nat} {E : Int} (hx : Fits (k.format.read x) E) (hy : Fits (k.format.read y) E) : floatBits .add k x y = some (fop .add k x y) := by
  obtain ⟨r, hr, _⟩ := fits_sum hx hy
  exact some_of (r := k.format.write r) (by unfold floatBits Format.add; dsimp only; rw [hr]; rfl)
theorem sub_is {k : FloatKind} {x y : Nat} {E : Int} (hx : Fits (k.format.read x) E) (hy : Fits (k.format.read y) E) : floatBits .sub k x y = some (fop .sub k x y) := by
  obtain ⟨r, hr, _⟩ := fits_sum hx (fits_opp hy)
  exact some_of (r := k.format.write r) (by unfold floatBits Format.sub; dsimp only; rw [hr]; rfl)
theorem mul_is {k : FloatKind} {x y : Nat} {E E' : Int} (hx : Fits (k.format.read x) E) (hy : Fits (k.format.read y) E') : floatBits .mul k x y = some (fop .mul k x y) := by
  obtain ⟨r, hr, _⟩ := fits_prod hx hy
  exact some_of (r := k.format.write r) (by unfold floatBits Format.mul; dsimp only; rw [hr]; rfl)
theorem fits_fin {x : Nat} {E : Int} (h : Fits (FloatKind.f32.format.read x) E) : finB x = true := by
  obtain ⟨s, m, p, h, _⟩ := h
  exact fin_of h
/-- a widened number keeps its size -/
theorem fits_wid2 {x : Nat} {E : Int} (h : Fits (FloatKind.f32.format.read x) E) (h0 : 0 ≤ E) (hE : E ≤ 127) : floatToFloatBits .f32 x .f64 = some (wid x) ∧ Fits (FloatKind.f64.format.read (wid x)) (E + 1) := by
  have hn := (fits_nan h).1
  have h1 := (wid_num (x := x) hn).1
  have h2 := fits_enc .f64 h (by show (-1074 : Int) + (52 : Nat) ≤ E; omega) (by show E < 1023; omega)
  refine ⟨h1, ?_⟩
  obtain ⟨s, m, p, he, _⟩ := h
  unfold floatToFloatBits at h1
  rw [if_neg (by decide), show FloatKind.f32.decode x = .number s m p from he] at h1
  rw [he] at h2
  dsimp only at h1
  split at h1
  · cases h1
  · rw [← Option.some.inj h1]
    exact h2
theorem nar_fits {r : Nat} {E : Int} (h : Fits (FloatKind.f64.format.read r) E) (h0 : 0 ≤ E) (hE : E < 126) : floatToFloatBits .f64 r .f32 = some (nar r) ∧ Fits (FloatKind.f32.format.read (nar r)) (E + 1) := by
  have h2 := fits_enc .f32 h (by show (-149 : Int) + (23 : Nat) ≤ E; omega) (by show E < 127; omega)
  obtain ⟨s, m, p, he, _⟩ := h
  rw [he] at h2
  obtain ⟨h3, h4⟩ := fits_nan h2
  have h5 : floatToFloatBits .f64 r .f32 = some (FloatKind.f32.format.write (.number s m p)) := by
    unfold floatToFloatBits
    rw [if_neg (by decide), show FloatKind.f64.decode r = .number s m p from he]
    dsimp only
    rw [if_neg (by show ¬ (FloatKind.f32.format.read (FloatKind.f32.format.write (.number s m p))).isInfinity = true; rw [h4]; decide)]
    rfl
  have h6 : nar r = FloatKind.f32.format.write (.number s m p) := by unfold nar; rw [h5]; rfl
  rw [h6]
  exact ⟨h5, h2⟩
def bdB (x B : Nat) : Bool := match FloatKind.f32.format.read x with | .number _ m p => decide (-149 ≤ p) && decide (m * 2 ^ (p + 149).toNat ≤ B) | _ => false
theorem bd_of {x B : Nat} (h : bdB x B = true) : Bd x B := by
  unfold bdB at h
  cases hd : FloatKind.f32.format.read x with
  | nan s t => rw [hd] at h; cases h
  | infinity s => rw [hd] at h; cases h
  | number s m p =>
    rw [hd] at h
    simp only [Bool.and_eq_true, decide_eq_true_eq] at h
    exact ⟨s, m, p, hd, h.1, h.2⟩
def numB (x : Nat) : Bool := match FloatKind.f32.format.read x with | .number false n j => n != 0 && decide (0 ≤ j + n.log2) | _ => false
theorem num_of {x : Nat} (h : numB x = true) : ∃ n j, FloatKind.f32.format.read x = .number false n j ∧ n ≠ 0 ∧ 0 ≤ j + n.log2 := by
  unfold numB at h
  cases hd : FloatKind.f32.format.read x with
  | nan s t => rw [hd] at h; cases h
  | infinity s => rw [hd] at h; cases h
  | number s m p =>
    rw [hd] at h
    cases s
    · simp only [Bool.and_eq_true, decide_eq_true_eq, bne_iff_ne, ne_eq] at h
      exact ⟨m, p, rfl, h.1, h.2⟩
    · cases h
theorem all_below {p : Nat → Bool} {n : Nat} (h : (List.range n).all p = true) {j : Nat} (hj : j < n) : p j = true := List.all_eq_true.1 h j (List.mem_range.2 hj)
/-- a small whole number as a float32 -/
def f32i (z : Int) : Nat := floatOfInt .f32 z
theorem small_bd {z : Int} (h0 : 0 ≤ z) (h1 : z < 16) : Bd (f32i z) (1 * 2 ^ 153) := by
  have h := all_below (p := fun j => bdB (f32i (j : Int)) (1 * 2 ^ 153)) (n := 16) (by decide +kernel) (j := z.toNat) (by omega)
  rw [show ((z.toNat : Nat) : Int) = z from by omega] at h
  exact bd_of h
theorem count_num {c : Nat} (h0 : 0 < c) (h1 : c ≤ 256) : ∃ n j, FloatKind.f32.format.read (f32i (c : Int)) = .number false n j ∧ n ≠ 0 ∧ 0 ≤ j + n.log2 := by
  have h := all_below (p := fun j => numB (f32i ((j + 1 : Nat) : Int))) (n := 256) (by decide +kernel) (j := c - 1) (by omega)
  rw [show c - 1 + 1 = c from by omega] at h
  exact num_of h
theorem bd_fits {x K : Nat} (h : Bd x (K * 2 ^ 153)) (hK : K ≤ 256) : Fits (FloatKind.f32.format.read x) 12 := by
  obtain ⟨s, m, p, h1, h2, h3⟩ := h
  refine ⟨s, m, p, h1, ?_⟩
  by_cases h0 : m = 0
  · exact .inl h0
  · right
    have h4 : 2 ^ m.log2 * 2 ^ (p + 149).toNat ≤ m * 2 ^ (p + 149).toNat := Nat.mul_le_mul_right _ (pow_le h0)
    have h5 : K * 2 ^ 153 ≤ 2 ^ 8 * 2 ^ 153 := Nat.mul_le_mul_right _ (by omega)
    rw [← Nat.pow_add] at h4 h5
    have h6 := (Nat.pow_le_pow_iff_right (by decide : 1 < 2)).1 (Nat.le_trans h4 (Nat.le_trans h3 h5))
    omega
/-- places of cells: none is far off, and there are not too many -/
def OkP (P : List (Nat × Nat)) : Prop := (∀ p ∈ P, Bd p.1 (1 * 2 ^ 153) ∧ Bd p.2 (1 * 2 ^ 153)) ∧ P.length ≤ 256
theorem OkP.take {P : List (Nat × Nat)} (h : OkP P) (k : Nat) : OkP (P.take k) := ⟨fun p hp => h.1 p (List.mem_of_mem_take hp), by rw [List.length_take]; have := h.2; omega⟩
def sRe (P : List (Nat × Nat)) : Nat := sumF (P.map Prod.fst)
def sIm (P : List (Nat × Nat)) : Nat := sumF (P.map Prod.snd)
theorem sum_bd {xs : List Nat} (h : ∀ x ∈ xs, Bd x (1 * 2 ^ 153)) (hl : xs.length ≤ 256) : Fits (FloatKind.f32.format.read (sumF xs)) 12 := by
  have h1 := bd_sums h hl xs.length (Nat.le_refl _)
  rw [List.take_of_length_le (Nat.le_refl _)] at h1
  exact bd_fits h1 hl
theorem sum_is {xs : List Nat} {x : Nat} (h : ∀ y ∈ xs ++ [x], Bd y (1 * 2 ^ 153)) (hl : xs.length ≤ 256) : floatBits .add .f32 (sumF xs) x = some (sumF (xs ++ [x])) := by
  rw [sumF_snoc]
  exact add_is (sum_bd (fun y hy => h y (List.mem_append_left _ hy)) hl) (bd_fits (h x (by simp)) (by decide))
theorem OkP.re {P : List (Nat × Nat)} (h : OkP P) : ∀ y ∈ P.map Prod.fst, Bd y (1 * 2 ^ 153) := by
  intro y hy
  obtain ⟨p, hp, rfl⟩ := List.mem_map.1 hy
  exact (h.1 p hp).1
theorem OkP.im {P : List (Nat × Nat)} (h : OkP P) : ∀ y ∈ P.map Prod.snd, Bd y (1 * 2 ^ 153) := by
  intro y hy
  obtain ⟨p, hp, rfl⟩ := List.mem_map.1 hy
  exact (h.1 p hp).2
theorem OkP.addRe {P : List (Nat × Nat)} {p : Nat × Nat} (h : OkP (P ++ [p])) : floatBits .add .f32 (sRe P) p.1 = some (sRe (P ++ [p])) := by
  have h1 := h.re
  have h2 := h.2
  unfold sRe
  rw [List.map_append] at *
  exact sum_is h1 (by simp at h2 ⊢; omega)
theorem OkP.addIm {P : List (Nat × Nat)} {p : Nat × Nat} (h : OkP (P ++ [p])) : floatBits .add .f32 (sIm P) p.2 = some (sIm (P ++ [p])) := by
  have h1 := h.im
  have h2 := h.2
  unfold sIm
  rw [List.map_append] at *
  exact sum_is h1 (by simp at h2 ⊢; omega)
def mRe (P : List (Nat × Nat)) : Nat := fop .quo .f32 (sRe P) (f32i (P.length : Int))
def mIm (P : List (Nat × Nat)) : Nat := fop .quo .f32 (sIm P) (f32i (P.length : Int))
theorem quo_is {x c : Nat} (hx : Fits (FloatKind.f32.format.read x) 12) (h0 : 0 < c) (h1 : c ≤ 256) : floatBits .quo .f32 x (f32i (c : Int)) = some (fop .quo .f32 x (f32i (c : Int))) ∧ Fits (FloatKind.f32.format.read (fop .quo .f32 x (f32i (c : Int)))) 13 := by
  obtain ⟨n, j, hr, hn, hj⟩ := count_num h0 h1
  constructor
  · obtain ⟨r, hq, _⟩ := fits_quot (FloatKind.f32.format.fractionBits + 2) hx (t := false) hn hj
    exact some_of (r := FloatKind.f32.format.write r) (by unfold floatBits Format.div; dsimp only; rw [hr, hq]; rfl)
  · exact quo_fits (F := 12) hx hr hn hj (by omega) (by decide) (by decide)
theorem OkP.quoRe {P : List (Nat × Nat)} (h : OkP P) (h0 : 0 < P.length) : floatBits .quo .f32 (sRe P) (f32i (P.length : Int)) = some (mRe P) ∧ Fits (FloatKind.f32.format.read (mRe P)) 13 :=
  quo_is (sum_bd h.re (by rw [List.length_map]; exact h.2)) h0 h.2
theorem OkP.quoIm {P : List (Nat × Nat)} (h : OkP P) (h0 : 0 < P.length) : floatBits .quo .f32 (sIm P) (f32i (P.length : Int)) = some (mIm P) ∧ Fits (FloatKind.f32.format.read (mIm P)) 13 :=
  quo_is (sum_bd h.im (by rw [List.length_map]; exact h.2)) h0 h.2
/-- the sum of both squares, in 64 bits, and narrowed -/
def powW (a b : Nat) : Nat := fop .add .f64 (fop .mul .f64 (wid a) (wid a)) (fop .mul .f64 (wid b) (wid b))
def powF (a b : Nat) : Nat := nar (powW a b)
structure PowIs (a b : Nat) : Prop where
  wa : floatToFloatBits .f32 a .f64 = some (wid a)
  wb : floatToFloatBits .f32 b .f64 = some (wid b)
  ma : floatBits .mul .f64 (wid a) (wid a) = some (fop .mul .f64 (wid a) (wid a))
  mb : floatBits .mul .f64 (wid b) (wid b) = some (fop .mul .f64 (wid b) (wid b))
  ad : floatBits .add .f64 (fop .mul .f64 (wid a) (wid a)) (fop .mul .f64 (wid b) (wid b)) = some (powW a b)
  na : floatToFloatBits .f64 (powW a b) .f32 = some (powF a b)
  fi : finB (powF a b) = true
theorem low64 : FloatKind.f64.format.leastPlace + FloatKind.f64.format.fractionBits ≤ -10 := by decide
theorem pow_is {a b : Nat} (ha : Fits (FloatKind.f32.format.read a) 15) (hb : Fits (FloatKind.f32.format.read b) 15) : PowIs a b := by
  obtain ⟨wa, fa⟩ := fits_wid2 ha (by decide) (by decide)
  obtain ⟨wb, fb⟩ := fits_wid2 hb (by decide) (by decide)
  have ga := mul_fits (k := .f64) (F := 33) fa fa (by omega) (by have := low64; omega) (by decide)
  have gb := mul_fits (k := .f64) (F := 33) fb fb (by omega) (by have := low64; omega) (by decide)
  have gs := add_fits (k := .f64) ga gb (by have := low64; omega) (by decide)
  obtain ⟨n1, n2⟩ := nar_fits gs (by decide) (by decide)
  exact ⟨wa, wb, mul_is fa fa, mul_is fb fb, add_is ga gb, n1, fits_fin n2⟩
/-- how far a place is from another, squared -/
def farF (a b : Nat) (p : Nat × Nat) : Nat := powF (fop .sub .f32 p.1 a) (fop .sub .f32 p.2 b)
structure FarIs (a b : Nat) (p : Nat × Nat) : Prop where
  sa : floatBits .sub .f32 p.1 a = some (fop .sub .f32 p.1 a)
  sb : floatBits .sub .f32 p.2 b = some (fop .sub .f32 p.2 b)
  pw : PowIs (fop .sub .f32 p.1 a) (fop .sub .f32 p.2 b)
theorem low32 : FloatKind.f32.format.leastPlace + FloatKind.f32.format.fractionBits ≤ -10 := by decide
theorem far_is {a b : Nat} {p : Nat × Nat} (ha : Fits (FloatKind.f32.format.read a) 13) (hb : Fits (FloatKind.f32.format.read b) 13) (h1 : Bd p.1 (1 * 2 ^ 153)) (h2 : Bd p.2 (1 * 2 ^ 153)) : FarIs a b p := by
  have f1 := fits_mono (bd_fits h1 (by decide)) (show (12 : Int) ≤ 13 by decide)
  have f2 := fits_mono (bd_fits h2 (by decide)) (show (12 : Int) ≤ 13 by decide)
  exact ⟨sub_is f1 ha, sub_is f2 hb, pow_is (sub_fits (k := .f32) f1 ha (by have := low32; omega) (by decide)) (sub_fits (k := .f32) f2 hb (by have := low32; omega) (by decide))⟩
/-- the sum of what the places are apart -/
def tot (a b : Nat) (P : List (Nat × Nat)) : Nat := sumF (P.map (farF a b))
theorem zero_num : nanF .f32 0 = false := by decide
theorem sumF_num {xs : List Nat} (h : ∀ x ∈ xs, finB x = true) : nanF .f32 (sumF xs) = false := by
  have key : ∀ k, k ≤ xs.length → nanF .f32 (sumF (xs.take k)) = false := by
    intro k
    induction k with
    | zero => intro _; rw [List.take_zero]; exact zero_num
    | succ k ih =>
      intro hk
      rw [sumF_take hk]
      exact (add_num (ih (by omega)) (h _ (List.getElem_mem _))).2
  have h1 := key xs.length (Nat.le_refl _)
  rwa [List.take_of_length_le (Nat.le_refl _)] at h1
theorem far_all {a b : Nat} {P : List (Nat × Nat)} (ha : Fits (FloatKind.f32.format.read a) 13) (hb : Fits (FloatKind.f32.format.read b) 13) (h : OkP P) : ∀ x ∈ P.map (farF a b), finB x = true := by
  intro x hx
  obtain ⟨p, hp, rfl⟩ := List.mem_map.1 hx
  exact (far_is ha hb (h.1 p hp).1 (h.1 p hp).2).pw.fi
theorem OkP.addTot {a b : Nat} {P : List (Nat × Nat)} {p : Nat × Nat} (ha : Fits (FloatKind.f32.format.read a) 13) (hb : Fits (FloatKind.f32.format.read b) 13) (h : OkP (P ++ [p])) : floatBits .add .f32 (tot a b P) (farF a b p) = some (tot a b (P ++ [p])) := by
  have h1 := far_all ha hb h
  unfold tot
  rw [List.map_append] at *
  show _ = some (sumF (P.map (farF a b) ++ [farF a b p]))
  rw [sumF_snoc]
  exact (add_num (sumF_num fun x hx => h1 x (List.mem_append_left _ hx)) (h1 _ (by simp))).1
def varF (P : List (Nat × Nat)) : Nat := fop .quo .f32 (tot (mRe P) (mIm P) P) (f32i (P.length : Int))
theorem quo_num {x c : Nat} (hx : nanF .f32 x = false) (h0 : 0 < c) (h1 : c ≤ 256) : floatBits .quo .f32 x (f32i (c : Int)) = some (fop .quo .f32 x (f32i (c : Int))) := by
  obtain ⟨n, j, hr, hn, hj⟩ := count_num h0 h1
  rcases num_read hx with ⟨s, h2⟩ | ⟨s, m, p, h2⟩
  · exact some_of (r := FloatKind.f32.format.write (.infinity (s ^^ false))) (by unfold floatBits Format.div; dsimp only; rw [h2, hr]; rfl)
  · obtain ⟨r, hq⟩ : ∃ r, (Datum.number s m p).quotient (FloatKind.f32.format.fractionBits + 2) (.number false n j) = some r := ⟨_, by unfold Datum.quotient; dsimp only; rw [if_neg hn]⟩
    exact some_of (r := FloatKind.f32.format.write r) (by unfold floatBits Format.div; dsimp only; rw [h2, hr, hq]; rfl)
theorem OkP.quoTot {P : List (Nat × Nat)} (h : OkP P) (h0 : 0 < P.length) : floatBits .quo .f32 (tot (mRe P) (mIm P) P) (f32i (P.length : Int)) = some (varF P) :=
  quo_num (sumF_num (far_all (h.quoRe h0).2 (h.quoIm h0).2 h)) h0 h.2
/-- the full cells among the first k -/
def ful (bs : List Bool) : Nat → List Nat
  | 0 => []
  | k + 1 => if (bs[k]?).getD false = true then ful bs k ++ [k] else ful bs k
theorem ful_yes {bs : List Bool} {k : Nat} (h : k < bs.length) (hb : bs[k] = true) : ful bs (k + 1) = ful bs k ++ [k] := by
  show (if _ then _ else _) = _
  rw [List.getElem?_eq_getElem h, hb]; rfl
theorem ful_no {bs : List Bool} {k : Nat} (h : k < bs.length) (hb : bs[k] = false) : ful bs (k + 1) = ful bs k := by
  show (if _ then _ else _) = _
  rw [List.getElem?_eq_getElem h, hb]; rfl
theorem ful_lt (bs : List Bool) : ∀ k, ∀ i ∈ ful bs k, i < k := by
  intro k
  induction k with
  | zero => intro i hi; cases hi
  | succ k ih =>
    intro i hi
    unfold ful at hi
    split at hi
    · rcases List.mem_append.1 hi with h | h
      · have := ih i h; omega
      · simp at h; omega
    · have := ih i hi; omega
theorem ful_len {bs : List Bool} : ∀ k, k ≤ bs.length → (ful bs k).length = cnt (bs.take k) := by
  intro k
  induction k with
  | zero => intro _; rfl
  | succ k ih =>
    intro h
    rw [cnt_snoc h, ← ih (by omega)]
    cases hb : bs[k]
    · rw [ful_no h hb]; simp
    · rw [ful_yes h hb]; simp
/-- where cell i is -/
def plc (wd : Int) (i : Nat) : Nat × Nat := (f32i ((i : Int) % wd), f32i ((i : Int) / wd))
def fulP (wd : Int) (bs : List Bool) (k : Nat) : List (Nat × Nat) := (ful bs k).map (plc wd)
theorem fulP_yes {wd : Int} {bs : List Bool} {k : Nat} (h : k < bs.length) (hb : bs[k] = true) : fulP wd bs (k + 1) = fulP wd bs k ++ [plc wd k] := by
  unfold fulP
  rw [ful_yes h hb, List.map_append]; rfl
theorem fulP_no {wd : Int} {bs : List Bool} {k : Nat} (h : k < bs.length) (hb : bs[k] = false) : fulP wd bs (k + 1) = fulP wd bs k := by
  unfold fulP
  rw [ful_no h hb]
theorem fulP_len {wd : Int} {bs : List Bool} {k : Nat} (h : k ≤ bs.length) : (fulP wd bs k).length = cnt (bs.take k) := by
  unfold fulP
  rw [List.length_map, ful_len k h]
theorem fulP_all {wd : Int} {bs : List Bool} : (fulP wd bs bs.length).length = cnt bs := by
  rw [fulP_len (Nat.le_refl _), List.take_of_length_le (Nat.le_refl _)]
theorem fulP_ok {wd hg : Int} {bs : List Bool} (h1 : 1 ≤ wd) (h2 : wd ≤ 16) (h3 : 1 ≤ hg) (h4 : hg ≤ 16) (h5 : wd * hg = bs.length) {k : Nat} (hk : k ≤ bs.length) : OkP (fulP wd bs k) := by
  have h256 : bs.length ≤ 256 := by have := prod_bd h1 h2 h3 h4; omega
  constructor
  · intro p hp
    obtain ⟨i, hi, rfl⟩ := List.mem_map.1 hp
    have h6 := ful_lt bs k i hi
    have r1 : 0 ≤ (i : Int) % wd := Int.emod_nonneg _ (by omega)
    have r2 : (i : Int) % wd < wd := Int.emod_lt_of_pos _ (by omega)
    have e := Int.mul_ediv_add_emod (i : Int) wd
    have r3 : (i : Int) / wd < hg := by
      have : wd * ((i : Int) / wd) < wd * hg := by omega
      exact Int.lt_of_mul_lt_mul_left this (by omega)
    exact ⟨small_bd r1 (by omega), small_bd (Int.ediv_nonneg (by omega) (by omega)) (by omega)⟩
  · rw [fulP_len hk]
    have := cnt_le (bs.take k)
    rw [List.length_take] at this
    omega
end Go.Proofs.Ytbefcfdmaafghaa
