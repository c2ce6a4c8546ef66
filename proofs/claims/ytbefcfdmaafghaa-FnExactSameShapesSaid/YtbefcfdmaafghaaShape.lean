/- Shapes: their copies, their comparison, and what is a valid one. -/
import Derived.Test.YtbefcfdmaafghaaCopies
import Derived.Test.YtbefcfdmaafghaaName
namespace Go.Proofs.Ytbefcfdmaafghaa
open Go.RowKit

/-- a shape is valid -/
def vS (nm : ByteArray) (wd hg : Int) (n : Nat) : Bool := nameB nm && vF wd hg n
/-- A box that holds a shape. -/
def SBox (w : World) (b : Nat) (nm : ByteArray) (wd hg : Int) (v : Value) : Prop :=
  w.cell? ⟨b, 0, none⟩ = some (.string nm) ∧ w.cell? ⟨b, 1, none⟩ = some (.int .i64 wd) ∧ w.cell? ⟨b, 2, none⟩ = some (.int .i64 hg) ∧ w.cell? ⟨b, 3, none⟩ = some v
theorem SBox.below {w w' : World} {b B : Nat} {nm : ByteArray} {wd hg : Int} {v : Value} (h : SBox w b nm wd hg v) (hb : Below B w w') (hlt : b < B) : SBox w' b nm wd hg v :=
  ⟨(hb.cell (p := ⟨b, 0, none⟩) hlt).trans h.1, (hb.cell (p := ⟨b, 1, none⟩) hlt).trans h.2.1, (hb.cell (p := ⟨b, 2, none⟩) hlt).trans h.2.2.1, (hb.cell (p := ⟨b, 3, none⟩) hlt).trans h.2.2.2⟩
theorem SBox.new (w : World) (t : TypeId) (nm : ByteArray) (wd hg : Int) (v : Value) : SBox (w.alloc (.cells #[.string nm, .int .i64 wd, .int .i64 hg, v] t)) w.heap.size nm wd hg v :=
  ⟨by simp [go_sem], by simp [go_sem], by simp [go_sem], by simp [go_sem]⟩

set_option maxHeartbeats 1000000 in
theorem validShape_any (nm : ByteArray) (wd hg : Int) (A : Option Addr) (n c : Nat) (w : World) (hs : nm.size ≤ 9223372036854775807) (hc : n ≤ 140737488351232) :
    Calls Try.prog 41 #[.agg #[.string nm, .int .i64 wd, .int .i64 hg, .slice A n c]] w fun e w' => e = .returned (.bool (vS nm wd hg n)) ∧ Below w.heap.size w w' := by
  by_cases hn : nameB nm = true
  · have HX : Hid (vS nm wd hg n = vF wd hg n) := by show vS nm wd hg n = _; simp [vS, hn]
    go_enter Try.func41, Try.ntmps41
    go_wp2_with fail
    refine (isName_any nm _ hs).mono ?_
    rintro e w1 ⟨rfl, rfl⟩
    go_wp2_with fail
    refine (validField_any wd hg A n c _ hc).mono ?_
    rintro e w1 ⟨rfl, hb⟩
    have B1 := Lib.hid (bthen (below_new w _) hb); clear hb
    go_wp2
    go_ret
    exact ⟨ret_bool HX.out.symm, B1.out⟩
  · have hn0 : nameB nm = false := by simpa using hn
    have HX : Hid (vS nm wd hg n = false) := by show vS nm wd hg n = _; simp [vS, hn0]
    clear hn
    go_enter Try.func41, Try.ntmps41
    go_wp2_with fail
    refine (isName_any nm _ hs).mono ?_
    rintro e w1 ⟨rfl, rfl⟩
    go_wp2
    go_ret
    exact ⟨ret_bool HX.out.symm, below_new _ _⟩

set_option maxHeartbeats 1000000 in
theorem l07Is_at1 (nm : ByteArray) (wd hg : Int) (A : Option Addr) (n c b : Nat) (w : World) (_hc : n ≤ 140737488351232) (hx : SBox w b nm wd hg (.slice A n c)) :
    Calls Try.prog 76 #[.pointer (some ⟨b, 1, none⟩)] w fun e w' => e = .returned (.bool (vF wd hg n)) ∧ ∃ m, w' = w.drewN m := by
  obtain ⟨_, c0, c1, c2⟩ := hx
  by_cases hs : sidesB wd hg = true
  · have hs' := sidesB_iff.1 hs
    obtain ⟨p1, p2⟩ := prod_bd hs'.1.1 hs'.1.2 hs'.2.1 hs'.2.2
    have hwr : IntKind.i64.wrap (wd * hg) = wd * hg := IntWalk.i64_in _ (by omega)
    have C := fun W => (l07Sides_any wd hg W).mono (R' := fun e w' => e = .returned (.bool true) ∧ w' = W) fun _ _ h => ⟨h.1.trans (ret_bool hs), h.2.symm⟩
    by_cases hp : (n : Int) = wd * hg
    · have hX : vF wd hg n = true := by rw [vF_iff]; exact ⟨hs', hp⟩
      have HX := Lib.hid hX; clear hX hs'
      have hb : ((n : Int) == wd * hg) = true := by rw [beq_iff_eq]; exact hp
      clear hp hs
      go_enter Try.func76, Try.ntmps76
      go_wp2
      go_quiet ((go_at_call 80; exact Calls.quiet_of_same (C _)))
      go_wp2
      go_ret
      exact ⟨ret_bool HX.out.symm, _, rfl⟩
    · have hX : vF wd hg n = false := by rw [← Bool.not_eq_true, vF_iff]; exact fun h => hp h.2
      have HX := Lib.hid hX; clear hX hs'
      have hb : ((n : Int) == wd * hg) = false := by rw [beq_eq_false_iff_ne]; exact hp
      clear hp hs
      go_enter Try.func76, Try.ntmps76
      go_wp2
      go_quiet ((go_at_call 80; exact Calls.quiet_of_same (C _)))
      go_wp2
      go_ret
      exact ⟨ret_bool HX.out.symm, _, rfl⟩
  · have hs0 : sidesB wd hg = false := by simpa using hs
    have hX : vF wd hg n = false := by simp [vF, hs0]
    have HX := Lib.hid hX; clear hX hs
    have C := fun W => (l07Sides_any wd hg W).mono (R' := fun e w' => e = .returned (.bool false) ∧ w' = W) fun _ _ h => ⟨h.1.trans (ret_bool hs0), h.2.symm⟩
    clear hs0
    go_enter Try.func76, Try.ntmps76
    go_wp2
    go_quiet ((go_at_call 80; exact Calls.quiet_of_same (C _)))
    go_wp2
    go_ret
    exact ⟨ret_bool HX.out.symm, _, rfl⟩

set_option maxHeartbeats 1000000 in
theorem l07Shape_any (nm : ByteArray) (wd hg : Int) (A : Option Addr) (n c b : Nat) (w : World) (hs : nm.size ≤ 9223372036854775807) (hc : n ≤ 140737488351232) (hx : SBox w b nm wd hg (.slice A n c)) :
    Calls Try.prog 89 #[.pointer (some ⟨b, 0, none⟩)] w fun e w' => e = .returned (.bool (vS nm wd hg n)) ∧ ∃ m, w' = w.drewN m := by
  obtain ⟨c0, c1, c2, c3⟩ := hx
  by_cases hn : nameB nm = true
  · have HX : Hid (vS nm wd hg n = vF wd hg n) := by show vS nm wd hg n = _; simp [vS, hn]
    go_enter Try.func89, Try.ntmps89
    go_wp2_with fail
    refine (l07Name_any nm _ hs).mono ?_
    rintro e w1 ⟨rfl, rfl⟩
    go_wp2_with fail
    refine (l07Is_at1 nm wd hg A n c b w hc ⟨c0, c1, c2, c3⟩).mono ?_
    rintro e w1 ⟨rfl, m, rfl⟩
    go_wp2
    go_ret
    exact ⟨ret_bool HX.out.symm, m, rfl⟩
  · have hn0 : nameB nm = false := by simpa using hn
    have HX : Hid (vS nm wd hg n = false) := by show vS nm wd hg n = _; simp [vS, hn0]
    clear hn
    go_enter Try.func89, Try.ntmps89
    go_wp2_with fail
    refine (l07Name_any nm _ hs).mono ?_
    rintro e w1 ⟨rfl, rfl⟩
    go_wp2
    go_ret
    exact ⟨ret_bool HX.out.symm, 0, rfl⟩

set_option maxHeartbeats 400000 in
theorem specValidShape_any (nm : ByteArray) (wd hg : Int) (A : Option Addr) (n c : Nat) (w : World) (hs : nm.size ≤ 9223372036854775807) (hc : n ≤ 140737488351232) :
    Calls Try.prog 39 #[.agg #[.string nm, .int .i64 wd, .int .i64 hg, .slice A n c]] w fun e w' => e = .returned (.bool (vS nm wd hg n)) ∧ Below w.heap.size w w' := by
  go_enter Try.func39, Try.ntmps39
  go_wp2_with fail
  refine (l07Shape_any nm wd hg A n c w.heap.size _ hs hc (SBox.new w 52 nm wd hg (.slice A n c))).mono ?_
  rintro e w1 ⟨rfl, m, rfl⟩
  go_wp2
  go_ret
  exact ⟨rfl, below_drewN (below_new _ _) _⟩

set_option maxHeartbeats 400000 in
theorem szShape_yes (nm : ByteArray) (wd hg : Int) (A : Option Addr) (n c : Nat) (left : Int) (w : World) (h1 : left ≤ 1048576) (h : (nm.size : Int) + (n : Int) ≤ left) :
    Calls Try.prog 38 #[.agg #[.string nm, .int .i64 wd, .int .i64 hg, .slice A n c], .int .i64 left] w fun e w' => e = .returned (.int .i64 (left - nm.size - n)) ∧ Below w.heap.size w w' := by
  have h2 : ¬ (left - (nm.size : Int) < 0) := by omega
  have h3 : ¬ (left - (nm.size : Int) - (n : Int) < 0) := by omega
  go_enter Try.func38, Try.ntmps38
  go_wp2_with fail
  refine (szField_yes wd hg A n c (left - nm.size) _ (by omega) (by omega)).mono ?_
  rintro e w1 ⟨rfl, hb⟩
  have B1 := Lib.hid (bthen (below_new w _) hb); clear hb
  go_wp2
  go_ret
  exact ⟨rfl, B1.out⟩
set_option maxHeartbeats 400000 in
theorem szShape_no1 (nm : ByteArray) (wd hg : Int) (A : Option Addr) (n c : Nat) (left : Int) (w : World) (h0 : 0 ≤ left) (h1 : left ≤ 1048576) (hs : nm.size ≤ 9223372036854775807) (h : left < (nm.size : Int)) :
    Calls Try.prog 38 #[.agg #[.string nm, .int .i64 wd, .int .i64 hg, .slice A n c], .int .i64 left] w fun e w' => e = .returned (.int .i64 (-1)) ∧ Below w.heap.size w w' := by
  have h2 : left - (nm.size : Int) < 0 := by omega
  go_enter Try.func38, Try.ntmps38
  go_wp2
  go_ret
  exact ⟨rfl, below_new _ _⟩
set_option maxHeartbeats 400000 in
theorem szShape_no2 (nm : ByteArray) (wd hg : Int) (A : Option Addr) (n c : Nat) (left : Int) (w : World) (h1 : left ≤ 1048576) (hm : n ≤ 9223372036854775807) (hs : (nm.size : Int) ≤ left) (h : left < (nm.size : Int) + (n : Int)) :
    Calls Try.prog 38 #[.agg #[.string nm, .int .i64 wd, .int .i64 hg, .slice A n c], .int .i64 left] w fun e w' => e = .returned (.int .i64 (-1)) ∧ Below w.heap.size w w' := by
  have h2 : ¬ (left - (nm.size : Int) < 0) := by omega
  have h3 : (-1 : Int) < 0 := by omega
  go_enter Try.func38, Try.ntmps38
  go_wp2_with fail
  refine (szField_no wd hg A n c (left - nm.size) _ (by omega) (by omega) hm (by omega)).mono ?_
  rintro e w1 ⟨rfl, hb⟩
  have B1 := Lib.hid (bthen (below_new w _) hb); clear hb
  go_wp2
  go_ret
  exact ⟨rfl, B1.out⟩

/-- e gives a shape whose cells lie in a row of their own from block B on -/
def GivesShape (B : Nat) (nm : ByteArray) (wd hg : Int) (bs : List Bool) (e : Ending) (w' : World) : Prop :=
  ∃ g c, e = .returned (.agg #[.string nm, .int .i64 wd, .int .i64 hg, .slice (some ⟨g, 0, none⟩) bs.length c]) ∧ w'.ownsRow B 4 1 (.slice (some ⟨g, 0, none⟩) bs.length c) bs.length (bs.map Value.bool)

set_option maxHeartbeats 1000000 in
theorem toShape_any (nm : ByteArray) (wd hg : Int) (A : Option Addr) (n c : Nat) (bs : List Bool) (w : World) (hn : bs.length = n) (hc : n ≤ 140737488351232) (hr : Rd w w.heap.size A (bs.map Value.bool)) :
    Calls Try.prog 40 #[.agg #[.string nm, .int .i64 wd, .int .i64 hg, .slice A n c]] w fun e w' => GivesShape w.heap.size nm wd hg bs e w' ∧ Below w.heap.size w w' := by
  subst hn
  have Hr := Lib.hid hr; clear hr
  go_enter Try.func40, Try.ntmps40
  go_wp2_with fail
  refine (toField_any wd hg A _ c bs _ rfl hc ?_).mono ?_
  · exact Hr.out.next ((((Below.refl _ _).alloc (Nat.le_refl _) _).alloc (by simp) _).alloc (by simp; omega) _)
  rintro e w1 ⟨⟨g, cp, rfl, hown⟩, hb⟩
  have HO := Lib.hid hown; clear hown
  have HB := Lib.hid hb
  obtain ⟨hcell, hfr⟩ := bcell hb
  have hz : w.heap.size + 2 < w1.heap.size := by have := hb.size; simp at this; omega
  have hgg : w.heap.size + 3 ≤ g := by have := (HO.out.lt g rfl).1; simp at this; omega
  clear hb
  go_wp2
  obtain ⟨hcell, hfr⟩ := bcell HB.out
  refine bodyPost_ret (v := .agg #[.string nm, .int .i64 wd, .int .i64 hg, .slice (some ⟨g, 0, none⟩) bs.length cp]) (by simp [results, Try.results40, go_sem, hcell]) rfl ⟨⟨g, cp, rfl, ?_⟩, ?_⟩
  · have h1 := own_base (b' := w.heap.size) HO.out (by simp; omega)
    iterate 7 (refine own_set ?_ (by rintro a ⟨⟩; simp <;> omega) _)
    exact h1
  · have h2 := (((Below.refl w.heap.size w).alloc (Nat.le_refl _) (.cells #[.string nm, .int .i64 wd, .int .i64 hg, .slice A bs.length c] 48)).alloc (by simp) (.cells #[.string ⟨#[]⟩, .int .i64 0, .int .i64 0, .slice none 0 0] 52)).alloc (by simp; omega) (.cells #[.string nm, .int .i64 0, .int .i64 0, .slice none 0 0] 52)
    have h3 := h2.trans (HB.out.mono (by simp; omega))
    iterate 7 (refine Below.setCell ?_ (by simp <;> omega) _)
    exact h3

set_option maxHeartbeats 1000000 in
theorem eqShape_same (nm : ByteArray) (wd hg : Int) (A A' : Option Addr) (n c n' c' : Nat) (bs : List Bool) (w : World) (hn : bs.length = n) (hn' : bs.length = n') (hc : bs.length ≤ 140737488351232)
    (hr : Rd w w.heap.size A (bs.map Value.bool)) (hr' : Rd w w.heap.size A' (bs.map Value.bool)) :
    Calls Try.prog 42 #[.agg #[.string nm, .int .i64 wd, .int .i64 hg, .slice A n c], .agg #[.string nm, .int .i64 wd, .int .i64 hg, .slice A' n' c']] w fun e w' => e = .returned (.bool true) ∧ Below w.heap.size w w' := by
  subst hn; subst hn'
  have hb := bthen (below_new w (.cells #[.string nm, .int .i64 wd, .int .i64 hg, .slice A bs.length c] 52)) (below_new _ (.cells #[.string nm, .int .i64 wd, .int .i64 hg, .slice A' bs.length c'] 52))
  have HR := Lib.hid (hr.next hb); clear hr
  have HR' := Lib.hid (hr'.next hb); clear hr' hb
  go_enter Try.func42, Try.ntmps42
  go_wp2_with fail
  refine (eqField_same wd hg A A' _ c _ c' bs _ rfl rfl hc HR.out HR'.out).mono ?_
  rintro e w1 ⟨rfl, hb1⟩
  have B1 := Lib.hid (bthen (bthen (below_new w _) (below_new _ _)) hb1); clear hb1
  go_wp2
  go_ret
  exact ⟨rfl, B1.out⟩

/-- the cells of two boxes that hold a shape each -/
def Eight (w : World) (b b' : Nat) (u0 u1 u2 u3 u4 u5 u6 u7 : Value) : Prop :=
  w.cell? ⟨b, 0, none⟩ = some u0 ∧ w.cell? ⟨b, 1, none⟩ = some u1 ∧ w.cell? ⟨b, 2, none⟩ = some u2 ∧ w.cell? ⟨b, 3, none⟩ = some u3 ∧ w.cell? ⟨b', 0, none⟩ = some u4 ∧ w.cell? ⟨b', 1, none⟩ = some u5 ∧ w.cell? ⟨b', 2, none⟩ = some u6 ∧ w.cell? ⟨b', 3, none⟩ = some u7
theorem eight_below {w w' : World} {B b b' : Nat} {u0 u1 u2 u3 u4 u5 u6 u7 : Value} (hb : Below B w w') (h : b < B) (h' : b' < B) (hx : Eight w b b' u0 u1 u2 u3 u4 u5 u6 u7) : Eight w' b b' u0 u1 u2 u3 u4 u5 u6 u7 :=
  ⟨(hb.cell (p := ⟨b, 0, none⟩) h).trans hx.1, (hb.cell (p := ⟨b, 1, none⟩) h).trans hx.2.1, (hb.cell (p := ⟨b, 2, none⟩) h).trans hx.2.2.1, (hb.cell (p := ⟨b, 3, none⟩) h).trans hx.2.2.2.1,
    (hb.cell (p := ⟨b', 0, none⟩) h').trans hx.2.2.2.2.1, (hb.cell (p := ⟨b', 1, none⟩) h').trans hx.2.2.2.2.2.1, (hb.cell (p := ⟨b', 2, none⟩) h').trans hx.2.2.2.2.2.2.1, (hb.cell (p := ⟨b', 3, none⟩) h').trans hx.2.2.2.2.2.2.2⟩
end Go.Proofs.Ytbefcfdmaafghaa
