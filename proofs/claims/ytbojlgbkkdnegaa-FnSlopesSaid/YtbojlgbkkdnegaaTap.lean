/- The spectra of masses that are all the same: the test of one. -/
import Derived.Test.YtbojlgbkkdnegaaSpec
import Derived.Test.YtbojlgbkkdnegaaRe
namespace Go.Proofs.Ytbojlgbkkdnegaa
open Ieee Go.RowKit
def cMl : Nat := 4562254508917369340
def cCt : Nat := 4576918229304087675
def addN (t : Nat) : Nat → Nat
  | 0 => 0
  | k + 1 => fop .add .f32 (addN t k) t
def pwF (i : Int) : Nat := fop .quo .f32 (floatOfInt .f32 (i - 4)) 1073741824
def oneP (i : Int) : Bool := FloatKind.f32.format.order (pwF i) 1065353216 == some .eq
def plT (n i : Int) : Nat := if oneP i then fop .mul .f32 (pF n 1) (logC (pF n 1)) else (expB (fop .mul .f32 (pwF i) (logC (pF n 1)))).getD 0
def plR (n : Nat) (i : Int) : Nat := if oneP i then addN (plT n i) n else fop .quo .f32 (logC (addN (plT n i) n)) (fop .sub .f32 (pwF i) 1065353216)
def ngL (n : Int) : Nat := Go.Op.negFloat .f64 (wid (logC (fOf n)))
def isN (x : Nat) : Bool := match FloatKind.f64.format.read x with | .number _ _ _ => true | _ => false
theorem isN_of {x : Nat} (h : isN x = true) : Is .f64 x := by
  unfold isN at h
  unfold Is
  split at h
  · exact ⟨_, _, _, by assumption⟩
  · cases h
/-- r8Gap of two numbers is not greater than c -/
def nearB (a b c : Nat) : Bool := isN a && (isN b && (decide (ab (vl .f64 a - vl .f64 b) < tw 100) && (decide (ab (vl .f64 b - vl .f64 a) < tw 100) && !(FloatKind.f64.format.order (gapF a b) c == some .gt))))
structure NearG (a b c : Nat) : Prop where
  ia : Is .f64 a
  ib : Is .f64 b
  h1 : ab (vl .f64 a - vl .f64 b) < tw 100
  h2 : ab (vl .f64 b - vl .f64 a) < tw 100
  gt : (FloatKind.f64.format.order (gapF a b) c == some .gt) = false
theorem nearG_of {a b c : Nat} (h : nearB a b c = true) : NearG a b c := by
  unfold nearB at h
  simp only [Bool.and_eq_true, Bool.not_eq_true', decide_eq_true_eq] at h
  exact ⟨isN_of h.1, isN_of h.2.1, h.2.2.1, h.2.2.2.1, h.2.2.2.2⟩
def plB (n : Nat) (i : Int) : Bool :=
  (floatBits .quo .f32 (floatOfInt .f32 (i - 4)) 1073741824 == some (pwF i)) && (finB (pwF i) && ((if oneP i then floatBits .mul .f32 (pF n 1) (logC (pF n 1)) == some (plT n i) else (floatBits .mul .f32 (pwF i) (logC (pF n 1)) == some (fop .mul .f32 (pwF i) (logC (pF n 1)))) && (expB (fop .mul .f32 (pwF i) (logC (pF n 1))) == some (plT n i))) &&
  (((List.range n).all fun k => floatBits .add .f32 (addN (plT n i) k) (plT n i) == some (fop .add .f32 (addN (plT n i) k) (plT n i))) && ((oneP i || (finB (addN (plT n i) n) && (gtB (addN (plT n i) n) && ((floatBits .sub .f32 (pwF i) 1065353216 == some (fop .sub .f32 (pwF i) 1065353216)) && (floatBits .quo .f32 (logC (addN (plT n i) n)) (fop .sub .f32 (pwF i) 1065353216) == some (plR n i)))))) &&
  (finB (plR n i) && nearB (wid (plR n i)) (ngL n) cCt)))))
structure PlOk (n : Nat) (i : Int) : Prop where
  pw : floatBits .quo .f32 (floatOfInt .f32 (i - 4)) 1073741824 = some (pwF i)
  fin : finB (pwF i) = true
  term : (oneP i = true ∧ floatBits .mul .f32 (pF n 1) (logC (pF n 1)) = some (plT n i)) ∨ (oneP i = false ∧ ∃ u, floatBits .mul .f32 (pwF i) (logC (pF n 1)) = some u ∧ expB u = some (plT n i))
  add : ∀ k, k < n → floatBits .add .f32 (addN (plT n i) k) (plT n i) = some (fop .add .f32 (addN (plT n i) k) (plT n i))
  res : (oneP i = true ∧ plR n i = addN (plT n i) n) ∨ (oneP i = false ∧ ∃ pm, finB (addN (plT n i) n) = true ∧ FloatKind.f32.format.order (addN (plT n i) n) 0 = some .gt ∧ floatBits .sub .f32 (pwF i) 1065353216 = some pm ∧ floatBits .quo .f32 (logC (addN (plT n i) n)) pm = some (plR n i))
  rfin : finB (plR n i) = true
  gap : NearG (wid (plR n i)) (ngL n) cCt
theorem pl_of {n : Nat} {i : Int} (h : plB n i = true) : PlOk n i := by
  unfold plB at h
  simp only [Bool.and_eq_true, beq_iff_eq] at h
  obtain ⟨h1, h2, h3, h4, h5, h6, h7⟩ := h
  refine ⟨h1, h2, ?_, fun k hk => ?_, ?_, h6, nearG_of h7⟩
  · cases ho : oneP i
    · rw [ho, if_neg (by decide)] at h3
      simp only [Bool.and_eq_true, beq_iff_eq] at h3
      exact .inr ⟨rfl, _, h3.1, h3.2⟩
    · rw [ho, if_pos rfl] at h3
      exact .inl ⟨rfl, by simpa using h3⟩
  · have h := List.all_eq_true.1 h4 k (List.mem_range.2 hk)
    simpa using h
  · cases ho : oneP i
    · rw [ho] at h5
      simp only [Bool.false_or, Bool.and_eq_true, beq_iff_eq] at h5
      exact .inr ⟨rfl, _, h5.1, gtB_t h5.2.1, h5.2.2.1, h5.2.2.2⟩
    · refine .inl ⟨rfl, ?_⟩
      unfold plR
      rw [ho, if_pos rfl]
/-- all powers -/
def rowQ (n : Nat) : Bool := (List.range 13).all fun i => plB n (i : Int)
end Go.Proofs.Ytbojlgbkkdnegaa
