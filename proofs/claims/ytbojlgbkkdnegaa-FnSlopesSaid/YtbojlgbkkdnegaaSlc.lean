/- Sizes' logarithms, a Cantor set's gaps and stairs. -/
import Derived.Test.YtbojlgbkkdnegaaTap
import Derived.Test.YtbojlgbkkdnegaaCantor
import Derived.Test.YtbojlgbkkdnegaaRa
namespace Go.Proofs.Ytbojlgbkkdnegaa
open Ieee Go.RowKit
def cLn : Nat := 4604418534488542221
def lgZ (k : Nat) : Nat := logC (szF k)
def lzB (k : Nat) : Bool := gtB (szF k) && (finB (lgZ k) && ((floatBits .sub .f64 (wid (lgZ k)) (wid (lgZ (k + 1))) == some (fop .sub .f64 (wid (lgZ k)) (wid (lgZ (k + 1))))) && nearB (fop .sub .f64 (wid (lgZ k)) (wid (lgZ (k + 1)))) cLn cMl))
structure LzOk (k : Nat) : Prop where
  pos : gtB (szF k) = true
  fin : finB (lgZ k) = true
  sub : floatBits .sub .f64 (wid (lgZ k)) (wid (lgZ (k + 1))) = some (fop .sub .f64 (wid (lgZ k)) (wid (lgZ (k + 1))))
  gap : NearG (fop .sub .f64 (wid (lgZ k)) (wid (lgZ (k + 1)))) cLn cMl
theorem lz_ok {k : Nat} (h : k < 9) : LzOk k := by
  have h := all_lt (p := lzB) (n := 9) (by decide +kernel) h
  unfold lzB at h
  simp only [Bool.and_eq_true, beq_iff_eq] at h
  exact ⟨h.1, h.2.1, h.2.2.1, nearG_of h.2.2.2⟩
theorem logs_szL {n : Nat} (h : n ≤ 9) : logsR (szL n) = (List.range n).map lgZ ∧ logOk (szL n) = true := by
  have hok : logOk (szL n) = true := by
    unfold logOk listB
    rw [szL_len, szL_fin (by omega), show decide (n ≤ 256) = true by rw [decide_eq_true_eq]; omega]
    have h2 : ((szL n).any fun x => !gtB x) = false := by
      rw [List.any_eq_false]
      intro x hx
      obtain ⟨j, hj, rfl⟩ := List.mem_map.1 hx
      rw [List.mem_range] at hj
      rw [(lz_ok (k := j) (by omega)).pos]; simp
    rw [h2]; rfl
  refine ⟨?_, hok⟩
  unfold logsR
  rw [hok, if_pos rfl]
  unfold szL
  rw [List.map_map]
  rfl
def cLit1 : List Nat := [0, 1059760811]
def cLit2 : List Nat := [0, 1046711865, 1059760811, 1063489081]
def cLit3 : List Nat := [0, 1033352230, 1046711865, 1050129446, 1059760811, 1061003568, 1063489081, 1064731838]
def cLit4 : List Nat := [0, 1019889032, 1033352230, 1036666248, 1046711865, 1048368875, 1050129446, 1050957951, 1059760811, 1060175063, 1061003568, 1061417820, 1063489081, 1063903334, 1064731838, 1065146090]
def cLit5 : List Nat := [0, 1007081733, 1019889032, 1023858949, 1033352230, 1034456903, 1036666248, 1037770921, 1046711865, 1047264201, 1048368875, 1048748605, 1050129446, 1050405615, 1050957951, 1051234119, 1059760811, 1059898895, 1060175063, 1060313147, 1061003568, 1061141652, 1061417820, 1061555904, 1063489081, 1063627165, 1063903334, 1064041418, 1064731838, 1064869922, 1065146090, 1065284174]
def cLit6 : List Nat := [0, 993250311, 1007081733, 1010027527, 1019889032, 1021361929, 1023858949, 1024595398, 1033352230, 1033720454, 1034456903, 1034825127, 1036666248, 1037034473, 1037770921, 1038139145, 1046711865, 1046895977, 1047264201, 1047448313, 1048368875, 1048552987, 1048748605, 1048840661, 1050129446, 1050221502, 1050405615, 1050497671, 1050957951, 1051050007, 1051234119, 1051326175, 1059760811, 1059806839, 1059898895, 1059944923, 1060175063, 1060221091, 1060313147, 1060359175, 1061003568, 1061049596, 1061141652, 1061187680, 1061417820, 1061463848, 1061555904, 1061601932, 1063489081, 1063535109, 1063627165, 1063673193, 1063903334, 1063949362, 1064041418, 1064087446, 1064731838, 1064777866, 1064869922, 1064915950, 1065146090, 1065192118, 1065284174, 1065330202]
def cLit : Nat → List Nat
  | 1 => cLit1
  | 2 => cLit2
  | 3 => cLit3
  | 4 => cLit4
  | 5 => cLit5
  | _ => cLit6
theorem cLit_is {d : Nat} (h1 : 1 ≤ d) (h2 : d ≤ 6) : cL d = cLit d := by
  have h := all_lt (p := fun j => cL (j + 1) == cLit (j + 1)) (n := 6) (by decide +kernel) (j := d - 1) (by omega)
  rw [show d - 1 + 1 = d by omega] at h
  exact eq_of_beq h
/-- a point of the set: the stairs there -/
def ptB (x : Nat) : Bool := finB x && (geF x 0 && (leF x k1 && (!(ltF x 0) && (!(gtF x k1) && ((stB 3 x 0 kh).any fun r => !(ltF r 0) && !(gtF r k1))))))
structure PtOk (x : Nat) : Prop where
  fin : finB x = true
  ge : geF x 0 = true
  le : leF x k1 = true
  lt : (FloatKind.f32.format.order x 0 == some .lt) = false
  gt : (FloatKind.f32.format.order x 1065353216 == some .gt) = false
  st : ∃ r, stB 3 x 0 kh = some r ∧ (FloatKind.f32.format.order r 0 == some .lt) = false ∧ (FloatKind.f32.format.order r 1065353216 == some .gt) = false
theorem pt_of {x : Nat} (h : ptB x = true) : PtOk x := by
  unfold ptB at h
  simp only [Bool.and_eq_true, Bool.not_eq_true'] at h
  obtain ⟨h1, h2, h3, h4, h5, h6⟩ := h
  refine ⟨h1, h2, h3, h4, h5, ?_⟩
  rw [Option.any_eq_true] at h6
  obtain ⟨r, h7, h8⟩ := h6
  simp only [Bool.and_eq_true, Bool.not_eq_true'] at h8
  exact ⟨r, h7, h8.1, h8.2⟩
/-- neighbours of the set -/
def adB (x y : Nat) : Bool := decide (keyF x < keyF y) && (!(leF y x) && (finB (fop .sub .f32 y x) && !(leF (fop .sub .f32 y x) 0)))
def setB (l : List Nat) : Bool := (l.all ptB) && ((List.range (l.length - 1)).all fun j => adB (l.getD j 0) (l.getD (j + 1) 0))
theorem set_all : (List.range 6).all (fun j => setB (cLit (j + 1))) = true := by decide +kernel
structure SetOk (l : List Nat) : Prop where
  pt : ∀ x ∈ l, PtOk x
  key : ∀ j, j + 1 < l.length → keyF (l.getD j 0) < keyF (l.getD (j + 1) 0)
  le : ∀ j, j + 1 < l.length → (FloatKind.f32.format.order (l.getD (j + 1) 0) (l.getD j 0) == some .lt || FloatKind.f32.format.order (l.getD (j + 1) 0) (l.getD j 0) == some .eq) = false
  fin : ∀ j, j + 1 < l.length → finB (fop .sub .f32 (l.getD (j + 1) 0) (l.getD j 0)) = true
  pos : ∀ j, j + 1 < l.length → (FloatKind.f32.format.order (fop .sub .f32 (l.getD (j + 1) 0) (l.getD j 0)) 0 == some .lt || FloatKind.f32.format.order (fop .sub .f32 (l.getD (j + 1) 0) (l.getD j 0)) 0 == some .eq) = false
theorem set_ok {d : Nat} (h1 : 1 ≤ d) (h2 : d ≤ 6) : SetOk (cL d) := by
  have h := all_lt set_all (j := d - 1) (by omega)
  rw [show d - 1 + 1 = d by omega, ← cLit_is h1 h2] at h
  unfold setB at h
  rw [Bool.and_eq_true] at h
  have ha : ∀ j, j + 1 < (cL d).length → adB ((cL d).getD j 0) ((cL d).getD (j + 1) 0) = true := fun j hj => all_lt h.2 (j := j) (by omega)
  have hb : ∀ j, j + 1 < (cL d).length → keyF ((cL d).getD j 0) < keyF ((cL d).getD (j + 1) 0) ∧ leF ((cL d).getD (j + 1) 0) ((cL d).getD j 0) = false ∧ finB (fop .sub .f32 ((cL d).getD (j + 1) 0) ((cL d).getD j 0)) = true ∧ leF (fop .sub .f32 ((cL d).getD (j + 1) 0) ((cL d).getD j 0)) 0 = false := fun j hj => by
    have h3 := ha j hj
    unfold adB at h3
    simp only [Bool.and_eq_true, Bool.not_eq_true', decide_eq_true_eq] at h3
    exact h3
  exact ⟨fun x hx => pt_of (List.all_eq_true.1 h.1 x hx), fun j hj => (hb j hj).1, fun j hj => (hb j hj).2.1, fun j hj => (hb j hj).2.2.1, fun j hj => (hb j hj).2.2.2⟩
theorem key_lt {l : List Nat} (H : SetOk l) {i j : Nat} (hij : i < j) (hj : j < l.length) : keyF (l.getD i 0) < keyF (l.getD j 0) := by
  induction j with
  | zero => omega
  | succ j ih =>
    have h1 := H.key j hj
    by_cases h : i = j
    · subst h; exact h1
    · have := ih (by omega) (by omega); omega
theorem set_srt {l : List Nat} (H : SetOk l) : srtA l = l := by
  have hp : (List.range l.length).Pairwise (ltA l) := by
    rw [List.pairwise_iff_getElem]
    intro i j hi hj hij
    simp at hi hj ⊢
    exact .inl (key_lt H hij hj)
  unfold srtA
  rw [sortedOf_eq (ltA_as l) (.refl _) hp]
  apply List.ext_getElem
  · simp
  · intro i h1 h2
    simp at h1
    simp [List.getD, List.getElem?_eq_getElem h1]
theorem gapsN_len (l : List Nat) : (gapsN l).length = l.length - 1 := by simp [gapsN]
theorem set_gaps {l : List Nat} (H : SetOk l) (hl : l.length ≤ 256) : gapsR l = gapsN l ∧ gapsOk l = true := by
  have hl2 : listB l = true := by
    unfold listB finL
    rw [decide_eq_true hl]
    have h2 : (l.any fun x => !finB x) = false := by
      rw [List.any_eq_false]
      intro x hx
      rw [(H.pt x hx).fin]; simp
    rw [h2]; rfl
  have hg : finL (gapsN l) = true := by
    unfold finL
    have h2 : ((gapsN l).any fun x => !finB x) = false := by
      rw [List.any_eq_false]
      intro x hx
      obtain ⟨j, hj, rfl⟩ := List.mem_map.1 hx
      rw [List.mem_range] at hj
      rw [H.fin j (by omega)]; simp
    rw [h2]; rfl
  have hok : gapsOk l = true := by unfold gapsOk; rw [set_srt H, hl2, hg]; rfl
  refine ⟨?_, hok⟩
  unfold gapsR
  rw [hok, if_pos rfl, set_srt H]
theorem half_st : stB 20 kh 0 kh = some kh ∧ geF kh 0 = true ∧ leF kh k1 = true ∧ (FloatKind.f32.format.order kh kh == some .eq) = true := by decide +kernel
end Go.Proofs.Ytbojlgbkkdnegaa
