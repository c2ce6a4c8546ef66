/- EmptyField, both ways, and the law FnExactEmptyField. -/
import Derived.Test.YtbefcfdmaafghaaMark
namespace Go.Proofs.Ytbefcfdmaafghaa
open Go.RowKit

/-- e gives a field and a bool; the field's cells lie in a row of their own from block B on -/
def GivesFB (B : Nat) (wd hg : Int) (bs : List Bool) (ok : Bool) (e : Ending) (w' : World) : Prop :=
  ∃ A c, e = .returned (.tuple #[.agg #[.int .i64 wd, .int .i64 hg, .slice A bs.length c], .bool ok]) ∧ w'.ownsRow B 4 1 (.slice A bs.length c) bs.length (bs.map Value.bool)

theorem not_sides {wd hg : Int} (hs : ¬ sidesB wd hg = true) : inB wd 1 16 = false ∨ (inB wd 1 16 = true ∧ inB hg 1 16 = false) := by
  unfold sidesB at hs
  cases h : inB wd 1 16 <;> cases h' : inB hg 1 16 <;> simp_all

set_option maxHeartbeats 1000000 in
theorem emptyField_no (wd hg : Int) (w : World) (hs : ¬ sidesB wd hg = true) :
    Calls Try.prog 29 #[.int .i64 wd, .int .i64 hg] w fun e w' => GivesFB w.heap.size 0 0 [] false e w' ∧ Below w.heap.size w w' := by
  rcases not_sides hs with h1 | ⟨h1, h2⟩
  all_goals
    clear hs
    go_enter Try.func29, Try.ntmps29
    go_wp2_with (go_at_call 77; refine (isSide_any _ _).mono ?_; rintro e w' ⟨rfl, rfl⟩)
    exact bodyPost_ret (v := .tuple #[.agg #[.int .i64 0, .int .i64 0, .slice none 0 0], .bool false]) (by simp [results, Try.results29, go_sem]) rfl ⟨⟨none, 0, rfl, World.ownsRow_nil _ _ _ _⟩, below_new _ _⟩
set_option maxHeartbeats 1000000 in
theorem specEmptyField_no (wd hg : Int) (w : World) (hs : ¬ sidesB wd hg = true) :
    Calls Try.prog 28 #[.int .i64 wd, .int .i64 hg] w fun e w' => GivesFB w.heap.size 0 0 [] false e w' ∧ Below w.heap.size w w' := by
  have h1 : sidesB wd hg = false := by simpa using hs
  clear hs
  go_enter Try.func28, Try.ntmps28
  go_wp2_with (go_at_call 80; refine (l07Sides_any _ _ _).mono ?_; rintro e w' ⟨rfl, rfl⟩)
  exact bodyPost_ret (v := .tuple #[.agg #[.int .i64 0, .int .i64 0, .slice none 0 0], .bool false]) (by simp [results, Try.results28, go_sem]) rfl ⟨⟨none, 0, rfl, World.ownsRow_nil _ _ _ _⟩, below_new _ _⟩

theorem made_bools {w : World} {B n : Nat} {v : Value} (h : w.ownsRow B 4 1 v n (madeCells #[Value.bool false] n).toList) : w.ownsRow B 4 1 v n ((List.replicate n false).map Value.bool) := by
  simpa [toList_madeCells_one, List.map_replicate] using h

set_option maxHeartbeats 1000000 in
theorem emptyField_yes (wd hg : Int) (n : Nat) (w : World) (hs : sidesB wd hg = true) (hn : (n : Int) = wd * hg) :
    Calls Try.prog 29 #[.int .i64 wd, .int .i64 hg] w fun e w' => GivesFB w.heap.size wd hg (List.replicate n false) true e w' ∧ Below w.heap.size w w' := by
  obtain ⟨i0, hi, hz0, hz1, hz2⟩ := info_parts Try.info4
  have hs' := sidesB_iff.1 hs
  obtain ⟨p1, p2⟩ := prod_bd hs'.1.1 hs'.1.2 hs'.2.1 hs'.2.2
  have h1 := inB_t hs'.1.1 hs'.1.2
  have h2 := inB_t hs'.2.1 hs'.2.2
  have Hn := Lib.hid hn.symm; clear hn hs hs'
  go_enter Try.func29, Try.ntmps29
  go_wp2_with (first | (go_at_call 77; refine (isSide_any _ _).mono ?_; rintro e w' ⟨rfl, rfl⟩) | (at_make; refine wpList_make_full _ rfl _ _ 22 rfl w.heap.size 4 i0 (.bool false) 1 Try.underlying22 hi hz0 hz1 _ _ _ _ n rfl rfl Hn.out Hn.out ?_ ?_ ?_ ?_))
  · rw [hz2]; have := Hn.out; omega
  · unfold maxLen; have := Hn.out; omega
  · simp
  · intro w1 hown hgrow
    have HB := Lib.hid ((below_new w (.cells #[.int .i64 0, .int .i64 0, .slice none 0 0] 27)).grown hgrow (by simp) (fun k hk => by cases hk))
    have HO := Lib.hid (made_bools hown)
    have hb0 : Below (w.heap.size + 1) (w.alloc (.cells #[.int .i64 0, .int .i64 0, .slice none 0 0] 27)) w1 := (Below.refl _ _).grown hgrow (by simp) (fun k hk => by cases hk)
    obtain ⟨hcell, hfr⟩ := bcell hb0
    have hz : w.heap.size < w1.heap.size := by have := hb0.size; simp at this; omega
    have H0 := Lib.hid hb0
    clear hown hgrow hb0
    go_wp2
    obtain ⟨hcell, hfr⟩ := bcell H0.out
    refine bodyPost_ret (v := .tuple #[.agg #[.int .i64 wd, .int .i64 hg, .slice (some ⟨w.heap.size + 1, 0, none⟩) n n], .bool true]) (by simp [results, Try.results29, go_sem, hcell]) rfl ⟨⟨some ⟨w.heap.size + 1, 0, none⟩, n, by rw [List.length_replicate], ?_⟩, ?_⟩
    · rw [List.length_replicate]
      have h9 := HO.out
      exact own_set (own_set (own_set h9 (by rintro a ⟨⟩; simp) _) (by rintro a ⟨⟩; simp) _) (by rintro a ⟨⟩; simp) _
    · exact ((HB.out.setCell (by simp) _).setCell (by simp) _).setCell (by simp) _
set_option maxHeartbeats 1000000 in
theorem specEmptyField_yes (wd hg : Int) (n : Nat) (w : World) (hs : sidesB wd hg = true) (hn : (n : Int) = wd * hg) :
    Calls Try.prog 28 #[.int .i64 wd, .int .i64 hg] w fun e w' => GivesFB w.heap.size wd hg (List.replicate n false) true e w' ∧ Below w.heap.size w w' := by
  obtain ⟨i0, hi, hz0, hz1, hz2⟩ := info_parts Try.info4
  have hs' := sidesB_iff.1 hs
  obtain ⟨p1, p2⟩ := prod_bd hs'.1.1 hs'.1.2 hs'.2.1 hs'.2.2
  have Hn := Lib.hid hn.symm; clear hn hs'
  go_enter Try.func28, Try.ntmps28
  go_wp2_with (first | (go_at_call 80; refine (l07Sides_any _ _ _).mono ?_; rintro e w' ⟨rfl, rfl⟩) | (at_make; refine wpList_make_full _ rfl _ _ 22 rfl w.heap.size 4 i0 (.bool false) 1 Try.underlying22 hi hz0 hz1 _ _ _ _ n rfl rfl Hn.out Hn.out ?_ ?_ ?_ ?_))
  · rw [hz2]; have := Hn.out; omega
  · unfold maxLen; have := Hn.out; omega
  · simp
  · intro w1 hown hgrow
    have HB := Lib.hid ((below_new w (.cells #[.int .i64 0, .int .i64 0, .slice none 0 0] 27)).grown hgrow (by simp) (fun k hk => by cases hk))
    have HO := Lib.hid (made_bools hown)
    have hb0 : Below (w.heap.size + 1) (w.alloc (.cells #[.int .i64 0, .int .i64 0, .slice none 0 0] 27)) w1 := (Below.refl _ _).grown hgrow (by simp) (fun k hk => by cases hk)
    obtain ⟨hcell, hfr⟩ := bcell hb0
    have hz : w.heap.size < w1.heap.size := by have := hb0.size; simp at this; omega
    have H0 := Lib.hid hb0
    clear hown hgrow hb0
    go_wp2
    obtain ⟨hcell, hfr⟩ := bcell H0.out
    refine bodyPost_ret (v := .tuple #[.agg #[.int .i64 wd, .int .i64 hg, .slice (some ⟨w.heap.size + 1, 0, none⟩) n n], .bool true]) (by simp [results, Try.results28, go_sem, hcell]) rfl ⟨⟨some ⟨w.heap.size + 1, 0, none⟩, n, by rw [List.length_replicate], ?_⟩, ?_⟩
    · rw [List.length_replicate]
      have h9 := HO.out
      exact own_set (own_set (own_set h9 (by rintro a ⟨⟩; simp) _) (by rintro a ⟨⟩; simp) _) (by rintro a ⟨⟩; simp) _
    · exact ((HB.out.setCell (by simp) _).setCell (by simp) _).setCell (by simp) _

theorem own_grown {w w' : World} {B B' : Nat} {e : TypeId} {A A' : Option Addr} {n c n' c' : Nat} {xs xs' : List Value} (h : w.ownsRow B e 1 (.slice A n c) n xs) (h' : w.ownsRow B' e 1 (.slice A' n' c') n' xs')
    (hlt : ∀ k, (Value.slice A n c).ownBlock = some k → k < B') (hg : w.grownBy w' (Value.slice A' n' c').ownBlock) : w'.ownsRow B e 1 (.slice A n c) n xs := by
  refine h.kept hg ?_
  cases hk : (Value.slice A n c).ownBlock with
  | none => exact .inl rfl
  | some k =>
    right
    intro he
    have h1 := hlt k hk
    have h2 := (h'.lt k he.symm).1
    omega
theorem FBox.grown {w w' : World} {b : Nat} {wd hg : Int} {v : Value} {r : Option Nat} (h : FBox w b wd hg v) (hg' : w.grownBy w' r) (_hlt : b < w.heap.size) (hne : some b ≠ r) : FBox w' b wd hg v :=
  ⟨hg'.cell (a := ⟨b, 0, none⟩) h.1 hne, hg'.cell (a := ⟨b, 1, none⟩) h.2.1 hne, hg'.cell (a := ⟨b, 2, none⟩) h.2.2 hne⟩
theorem blk_ne_of_own {w : World} {B : Nat} {e : TypeId} {A : Option Addr} {n c : Nat} {xs : List Value} (h : w.ownsRow B e 1 (.slice A n c) n xs) {b : Nat} (hb : b < B) : some b ≠ (Value.slice A n c).ownBlock := by
  intro he
  have := (h.lt b he.symm).1
  omega

set_option maxHeartbeats 4000000 in
/-- The law, whatever the two functions give, if both give the same. -/
theorem lawEmpty_of (a b wd hg : Int) (bs : List Bool) (ok : Bool) (hl : bs.length ≤ 1048576)
    (c28 : ∀ W, Calls Try.prog 28 #[.int .i64 a, .int .i64 b] W fun e w' => GivesFB W.heap.size wd hg bs ok e w' ∧ Below W.heap.size W w')
    (c29 : ∀ W, Calls Try.prog 29 #[.int .i64 a, .int .i64 b] W fun e w' => GivesFB W.heap.size wd hg bs ok e w' ∧ Below W.heap.size W w') (w : World) :
    Calls Try.prog 5 #[.int .i64 a, .int .i64 b] w fun e w' => e = .returned (.bool true) ∧ Below w.heap.size w w' := by
  have C28 := Lib.hid c28; clear c28
  have C29 := Lib.hid c29; clear c29
  go_enter Try.func5, Try.ntmps5
  go_wp2_with fail
  refine (C28.out _).mono ?_
  rintro e w1 ⟨⟨A1, c1, rfl, ho1⟩, hb1⟩
  have B1 := Lib.hid hb1
  have O1 := Lib.hid ho1
  have hBw := Lib.hid hb1.size
  clear hb1 ho1
  go_wp2_with fail
  refine (C29.out _).mono ?_
  rintro e w2 ⟨⟨A2, c2, rfl, ho2⟩, hb2⟩
  have B2 := Lib.hid (bthen B1.out (bthen (below_new w1 _) hb2))
  have X1 := Lib.hid ((FBox.new w1 27 wd hg (.slice A1 bs.length c1)).below hb2 (by simp))
  have P1 := Lib.hid (own_next O1.out (bthen (below_new w1 _) hb2))
  have L1 : Hid (∀ k, (Value.slice A1 bs.length c1).ownBlock = some k → k < w1.heap.size + 1) := fun k hk => by have := (O1.out.lt k hk).2; omega
  have z1 : w1.heap.size < w2.heap.size := by have := hb2.size; simp at this; omega
  have O2 := Lib.hid (show w2.ownsRow (w1.heap.size + 1) 4 1 (.slice A2 bs.length c2) bs.length (bs.map Value.bool) by simpa using ho2)
  clear hb2 ho2 B1 O1
  obtain ⟨x0, x1, x2⟩ := X1.out
  go_wp2_with fail
  refine (eqField_same wd hg A2 A1 _ c2 _ c1 bs _ rfl rfl (by omega) ?_ ?_).mono ?_
  · exact (Rd.own O2.out).next (below_new w2 _)
  · exact (Rd.own P1.out).next (below_new w2 _)
  rintro e w3 ⟨rfl, hb3⟩
  have B3 := Lib.hid (bthen B2.out (bthen (below_new w2 _) hb3))
  have Y1 := Lib.hid ((X1.out.below (below_new w2 _) z1).below hb3 (by simp; omega))
  have Y2 := Lib.hid ((FBox.new w2 27 wd hg (.slice A2 bs.length c2)).below hb3 (by simp))
  have P3 := Lib.hid (own_next P1.out (bthen (below_new w2 _) hb3))
  have O3 := Lib.hid (own_next O2.out (bthen (below_new w2 _) hb3))
  have L2 : Hid (∀ k, (Value.slice A2 bs.length c2).ownBlock = some k → k < w2.heap.size) := fun k hk => (O2.out.lt k hk).2
  have z3 : w2.heap.size < w3.heap.size := by have := hb3.size; simp at this; omega
  clear hb3 B2 X1 P1 O2 x0 x1 x2
  obtain ⟨y0, y1, y2⟩ := Y2.out
  go_wp2_with fail
  refine (markField_any wd hg A2 _ c2 1 _ _ w3 ?_ (by omega) O3.out).mono ?_
  · omega
  rintro e w4 ⟨rfl, ho4, hg4⟩
  have B4 := Lib.hid (B3.out.grown hg4 B3.out.size (fun k hk => by have := (O3.out.lt k hk).1; have := hBw.out; omega))
  have Z1 := Lib.hid (Y1.out.grown hg4 (by omega) (blk_ne_of_own O3.out (by omega)))
  have Z2 := Lib.hid (Y2.out.grown hg4 z3 (fun he => by have := L2.out _ he.symm; omega))
  have P4 := Lib.hid (own_grown P3.out O3.out L1.out hg4)
  have O4 := Lib.hid ho4
  have z4 : w3.heap.size ≤ w4.heap.size := hg4.size
  clear ho4 hg4 B3 Y1 Y2 P3 O3 y0 y1 y2
  obtain ⟨y0, y1, y2⟩ := Z2.out
  go_wp2_with fail
  refine (heldField_any wd hg A2 _ c2 1 w4 (by omega) (Rd.own O4.out)).mono ?_
  rintro e w5 ⟨rfl, hb5⟩
  have B5 := Lib.hid (bthen B4.out hb5)
  have V1 := Lib.hid (Z1.out.below hb5 (by omega))
  have V2 := Lib.hid (Z2.out.below hb5 (by omega))
  have P5 := Lib.hid (own_next P4.out hb5)
  have O5 := Lib.hid (own_next O4.out hb5)
  have z5 := hb5.size
  clear hb5 B4 Z1 Z2 P4 O4 y0 y1 y2
  go_wp2_with fail
  refine (C29.out _).mono ?_
  rintro e w6 ⟨⟨A6, c6, rfl, ho6⟩, hb6⟩
  have B6 := Lib.hid (bthen B5.out hb6)
  have U1 := Lib.hid (V1.out.below hb6 (by omega))
  have U2 := Lib.hid (V2.out.below hb6 (by omega))
  have P6 := Lib.hid (own_next P5.out hb6)
  have O6 := Lib.hid (own_next O5.out hb6)
  have Q6 := Lib.hid ho6
  have z6 := hb6.size
  clear hb6 ho6 B5 V1 V2 P5 O5
  have zz6 : w1.heap.size < w6.heap.size := by omega
  obtain ⟨x0, x1, x2⟩ := U1.out
  go_wp2_with fail
  refine (eqField_same wd hg A6 A1 _ c6 _ c1 bs _ rfl rfl (by omega) ?_ ?_).mono ?_
  · exact (Rd.own Q6.out).next (below_new w6 _)
  · exact (Rd.own P6.out).next (below_new w6 _)
  rintro e w7 ⟨rfl, hb7⟩
  have B7 := Lib.hid (bthen B6.out (bthen (below_new w6 _) hb7))
  have T2 := Lib.hid ((U2.out.below (below_new w6 _) (by omega)).below hb7 (by simp; omega))
  have O7 := Lib.hid (own_next O6.out (bthen (below_new w6 _) hb7))
  clear hb7 B6 U1 U2 P6 O6 Q6 x0 x1 x2
  obtain ⟨y0, y1, y2⟩ := T2.out
  go_wp2_with fail
  refine (heldField_any wd hg A2 _ c2 1 w7 (by omega) (Rd.own O7.out)).mono ?_
  rintro e w8 ⟨rfl, hb8⟩
  have B8 := Lib.hid (bthen B7.out hb8)
  clear hb8 B7 T2 O7 y0 y1 y2
  go_wp2
  go_ret
  exact ⟨rfl, B8.out⟩

theorem lawEmptyField (wd hg : Int) (w : World) : Calls Try.prog 5 #[.int .i64 wd, .int .i64 hg] w fun e w' => e = .returned (.bool true) ∧ Below w.heap.size w w' := by
  by_cases hs : sidesB wd hg = true
  · have hs' := sidesB_iff.1 hs
    obtain ⟨p1, p2⟩ := prod_bd hs'.1.1 hs'.1.2 hs'.2.1 hs'.2.2
    have hn : (((wd * hg).toNat : Nat) : Int) = wd * hg := by omega
    exact lawEmpty_of wd hg wd hg (List.replicate (wd * hg).toNat false) true (by rw [List.length_replicate]; omega) (fun W => specEmptyField_yes wd hg _ W hs hn) (fun W => emptyField_yes wd hg _ W hs hn) w
  · exact lawEmpty_of wd hg 0 0 [] false (by simp) (fun W => specEmptyField_no wd hg W hs) (fun W => emptyField_no wd hg W hs) w
end Go.Proofs.Ytbefcfdmaafghaa
