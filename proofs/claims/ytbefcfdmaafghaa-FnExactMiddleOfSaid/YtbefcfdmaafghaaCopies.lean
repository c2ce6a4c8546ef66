/- Contracts of the size counts, of the copies of a field, and of the comparison of two equal fields. -/
import Derived.Test.YtbefcfdmaafghaaValid
namespace Go.Proofs.Ytbefcfdmaafghaa
open Go.RowKit

set_option maxHeartbeats 400000 in
theorem specValidField_any (wd hg : Int) (A : Option Addr) (n c : Nat) (w : World) (hc : n ≤ 140737488351232) :
    Calls Try.prog 20 #[.agg #[.int .i64 wd, .int .i64 hg, .slice A n c]] w fun e w' => e = .returned (.bool (vF wd hg n)) ∧ Below w.heap.size w w' := by
  go_enter Try.func20, Try.ntmps20
  go_wp2_with (go_at_call 76; refine (l07Is_any wd hg A n c w.heap.size _ hc ?_).mono ?_)
  · exact ⟨by simp [go_sem], by simp [go_sem], by simp [go_sem]⟩
  · rintro e w' ⟨rfl, m, rfl⟩
    go_wp2
    go_ret
    exact ⟨rfl, below_drewN ((Below.refl _ _).alloc (Nat.le_refl _) _) _⟩

set_option maxHeartbeats 400000 in
theorem szBoolS_yes (A : Option Addr) (n c : Nat) (left : Int) (w : World) (h1 : left ≤ 1048576) (h : (n : Int) ≤ left) :
    Calls Try.prog 75 #[.slice A n c, .int .i64 left] w fun e w' => e = .returned (.int .i64 (left - n)) ∧ w = w' := by
  go_enter Try.func75, Try.ntmps75
  go_wp2
  go_ret
  exact ⟨rfl, rfl⟩
set_option maxHeartbeats 400000 in
theorem szBoolS_no (A : Option Addr) (n c : Nat) (left : Int) (w : World) (h0 : 0 ≤ left) (h1 : left ≤ 1048576) (hc : n ≤ 9223372036854775807) (h : left < (n : Int)) :
    Calls Try.prog 75 #[.slice A n c, .int .i64 left] w fun e w' => e = .returned (.int .i64 (-1)) ∧ w = w' := by
  go_enter Try.func75, Try.ntmps75
  go_wp2
  go_ret
  exact ⟨rfl, rfl⟩

set_option maxHeartbeats 400000 in
theorem szField_yes (wd hg : Int) (A : Option Addr) (n c : Nat) (left : Int) (w : World) (h1 : left ≤ 1048576) (h : (n : Int) ≤ left) :
    Calls Try.prog 19 #[.agg #[.int .i64 wd, .int .i64 hg, .slice A n c], .int .i64 left] w fun e w' => e = .returned (.int .i64 (left - n)) ∧ Below w.heap.size w w' := by
  go_enter Try.func19, Try.ntmps19
  go_wp2_with (go_at_call 75; refine (szBoolS_yes A n c left _ h1 h).mono ?_; rintro e w' ⟨rfl, rfl⟩)
  go_ret
  exact ⟨rfl, (Below.refl _ _).alloc (Nat.le_refl _) _⟩
set_option maxHeartbeats 400000 in
theorem szField_no (wd hg : Int) (A : Option Addr) (n c : Nat) (left : Int) (w : World) (h0 : 0 ≤ left) (h1 : left ≤ 1048576) (hc : n ≤ 9223372036854775807) (h : left < (n : Int)) :
    Calls Try.prog 19 #[.agg #[.int .i64 wd, .int .i64 hg, .slice A n c], .int .i64 left] w fun e w' => e = .returned (.int .i64 (-1)) ∧ Below w.heap.size w w' := by
  go_enter Try.func19, Try.ntmps19
  go_wp2_with (go_at_call 75; refine (szBoolS_no A n c left _ h0 h1 hc h).mono ?_; rintro e w' ⟨rfl, rfl⟩)
  go_ret
  exact ⟨rfl, (Below.refl _ _).alloc (Nat.le_refl _) _⟩

theorem FBox.below {w w' : World} {b B : Nat} {wd hg : Int} {v : Value} (h : FBox w b wd hg v) (hb : Below B w w') (hlt : b < B) : FBox w' b wd hg v :=
  ⟨(hb.cell (p := ⟨b, 0, none⟩) hlt).trans h.1, (hb.cell (p := ⟨b, 1, none⟩) hlt).trans h.2.1, (hb.cell (p := ⟨b, 2, none⟩) hlt).trans h.2.2⟩
theorem FBox.new (w : World) (t : TypeId) (wd hg : Int) (v : Value) : FBox (w.alloc (.cells #[.int .i64 wd, .int .i64 hg, v] t)) w.heap.size wd hg v :=
  ⟨by simp [go_sem], by simp [go_sem], by simp [go_sem]⟩

/-- the cells of two boxes that hold a field each -/
theorem six_below {w w' : World} {B b b' : Nat} {u0 u1 u2 u3 u4 u5 : Value} (hb : Below B w w') (h : b < B) (h' : b' < B)
    (hx : w.cell? ⟨b, 0, none⟩ = some u0 ∧ w.cell? ⟨b, 1, none⟩ = some u1 ∧ w.cell? ⟨b, 2, none⟩ = some u2 ∧ w.cell? ⟨b', 0, none⟩ = some u3 ∧ w.cell? ⟨b', 1, none⟩ = some u4 ∧ w.cell? ⟨b', 2, none⟩ = some u5) :
    w'.cell? ⟨b, 0, none⟩ = some u0 ∧ w'.cell? ⟨b, 1, none⟩ = some u1 ∧ w'.cell? ⟨b, 2, none⟩ = some u2 ∧ w'.cell? ⟨b', 0, none⟩ = some u3 ∧ w'.cell? ⟨b', 1, none⟩ = some u4 ∧ w'.cell? ⟨b', 2, none⟩ = some u5 :=
  ⟨(hb.cell (p := ⟨b, 0, none⟩) h).trans hx.1, (hb.cell (p := ⟨b, 1, none⟩) h).trans hx.2.1, (hb.cell (p := ⟨b, 2, none⟩) h).trans hx.2.2.1,
    (hb.cell (p := ⟨b', 0, none⟩) h').trans hx.2.2.2.1, (hb.cell (p := ⟨b', 1, none⟩) h').trans hx.2.2.2.2.1, (hb.cell (p := ⟨b', 2, none⟩) h').trans hx.2.2.2.2.2⟩

/-- e gives a field (wd, hg, bs) whose cells lie in a row of their own from block B on -/
def GivesField (B : Nat) (wd hg : Int) (bs : List Bool) (e : Ending) (w' : World) : Prop :=
  ∃ g c, e = .returned (.agg #[.int .i64 wd, .int .i64 hg, .slice (some ⟨g, 0, none⟩) bs.length c]) ∧ w'.ownsRow B 4 1 (.slice (some ⟨g, 0, none⟩) bs.length c) bs.length (bs.map Value.bool)

set_option maxHeartbeats 1000000 in
theorem toField_any (wd hg : Int) (A : Option Addr) (n c : Nat) (bs : List Bool) (w : World) (hn : bs.length = n) (hc : n ≤ 140737488351232) (hr : Rd w w.heap.size A (bs.map Value.bool)) :
    Calls Try.prog 21 #[.agg #[.int .i64 wd, .int .i64 hg, .slice A n c]] w fun e w' => GivesField w.heap.size wd hg bs e w' ∧ Below w.heap.size w w' := by
  have Hn := Lib.hid hn; clear hn
  have Hr := Lib.hid hr; clear hr
  go_enter Try.func21, Try.ntmps21
  go_wp2_with fail
  refine (toBoolS_any A n c bs _ Hn.out hc ?_).mono ?_
  · exact Hr.out.next ((((Below.refl _ _).alloc (Nat.le_refl _) _).alloc (by simp) _).alloc (by simp; omega) _)
  rintro e w1 ⟨rfl, hown, hb⟩
  obtain ⟨hcell, hfr⟩ := bcell hb
  have HO := Lib.hid hown; clear hown
  have HB := Lib.hid hb; clear hb
  have hz : w.heap.size + 2 < w1.heap.size := by have := HB.out.size; simp at this; omega
  go_wp2
  obtain ⟨hcell, hfr⟩ := bcell HB.out
  refine bodyPost_ret (v := .agg #[.int .i64 wd, .int .i64 hg, .slice (some ⟨w.heap.size + 1 + 1 + 1, 0, none⟩) n n]) (by simp [results, Try.results21, go_sem, hcell]) rfl ⟨⟨w.heap.size + 1 + 1 + 1, n, ?_, ?_⟩, ?_⟩
  · rw [Hn.out]
  · rw [Hn.out]
    have h1 := own_base (b' := w.heap.size) HO.out (by simp; omega)
    simp only [World.size_alloc] at h1
    exact own_set (own_set (own_set (own_set h1 (by rintro a ⟨⟩; simp <;> omega) _) (by rintro a ⟨⟩; simp <;> omega) _) (by rintro a ⟨⟩; simp <;> omega) _) (by rintro a ⟨⟩; simp <;> omega) _
  · exact ((((((((Below.refl _ _).alloc (Nat.le_refl _) _).alloc (by simp) _).alloc (by simp; omega) _).trans (HB.out.mono (by simp; omega))).setCell (by simp; omega) _).setCell (by simp) _).setCell (by simp) _).setCell (by simp) _

set_option maxHeartbeats 1000000 in
/-- eqField of two fields with the same sides and cells -/
theorem eqField_same (wd hg : Int) (A A' : Option Addr) (n c n' c' : Nat) (bs : List Bool) (w : World) (hn : bs.length = n) (hn' : bs.length = n') (hc : bs.length ≤ 140737488351232)
    (hr : Rd w w.heap.size A (bs.map Value.bool)) (hr' : Rd w w.heap.size A' (bs.map Value.bool)) :
    Calls Try.prog 23 #[.agg #[.int .i64 wd, .int .i64 hg, .slice A n c], .agg #[.int .i64 wd, .int .i64 hg, .slice A' n' c']] w fun e w' => e = .returned (.bool true) ∧ Below w.heap.size w w' := by
  subst hn; subst hn'
  have Hr := Lib.hid hr; clear hr
  have Hr' := Lib.hid hr'; clear hr'
  go_enter Try.func23, Try.ntmps23
  go_wp2_with fail
  refine (eqBoolS_any A A' _ c _ c' bs bs _ rfl rfl hc hc ?_ ?_).mono ?_
  · exact Hr.out.next (((Below.refl _ _).alloc (Nat.le_refl _) _).alloc (by simp) _)
  · exact Hr'.out.next (((Below.refl _ _).alloc (Nat.le_refl _) _).alloc (by simp) _)
  rintro e w1 ⟨rfl, m, rfl⟩
  rw [sameL_self]
  go_wp2
  go_ret
  exact ⟨rfl, below_drewN (((Below.refl _ _).alloc (Nat.le_refl _) _).alloc (by simp) _) _⟩
end Go.Proofs.Ytbefcfdmaafghaa
