/- Rows of shapes: how they read, their sizes, their copies, their comparison. -/
import Derived.Test.YtbefcfdmaafghaaShape
import Derived.Test.YtbefcfdmaafghaaSame
import Derived.Test.YtbefcfdmaafghaaTwo
namespace Go.Proofs.Ytbefcfdmaafghaa
open Go.RowKit
/-- a shape as it lies in a row: its cells may lie anywhere -/
structure Sh where
  nm : ByteArray
  wd : Int
  hg : Int
  bs : List Bool
  A : Option Addr
  c : Nat
def Sh.cells (s : Sh) : List Value := [.string s.nm, .int .i64 s.wd, .int .i64 s.hg, .slice s.A s.bs.length s.c]
/-- what two shapes must share to be the same -/
def Sh.same (s t : Sh) : Prop := s.nm = t.nm ∧ s.wd = t.wd ∧ s.hg = t.hg ∧ s.bs = t.bs
/-- the slice at A reads as these shapes; all of it lies below block B -/
def RdS (w : World) (B : Nat) (A : Option Addr) (ss : List Sh) : Prop :=
  (ss = [] ∨ ∃ ad : Addr, A = some ad ∧ ad.block < B ∧ ∀ j s i u, ss[j]? = some s → s.cells[i]? = some u → w.cell? (ad.add (j * 4 + i)) = some u) ∧
  ∀ s ∈ ss, Rd w B s.A (s.bs.map Value.bool) ∧ s.nm.size ≤ 9223372036854775807 ∧ s.bs.length ≤ 9223372036854775807
def szN (ss : List Sh) : Nat := (ss.map fun s => s.nm.size + s.bs.length).sum
theorem szN_snoc {ss : List Sh} {k : Nat} (h : k < ss.length) : szN (ss.take (k + 1)) = szN (ss.take k) + (ss[k].nm.size + ss[k].bs.length) := by
  unfold szN
  rw [List.take_succ_eq_append_getElem h, List.map_append, List.sum_append]
  simp
theorem szN_le {ss : List Sh} (k : Nat) : szN (ss.take k) ≤ szN ss := by
  unfold szN
  conv => rhs; rw [← List.take_append_drop k ss, List.map_append, List.sum_append]
  omega
section
variable {w w' : World} {B B' : Nat} {A : Option Addr} {ss : List Sh}
theorem RdS.below (h : RdS w B A ss) (hb : Below B w w') : RdS w' B A ss :=
  ⟨h.1.imp id fun ⟨ad, e, hlt, hc⟩ => ⟨ad, e, hlt, fun j s i u hs hu => (hb.cell (by rw [add_block]; exact hlt)).trans (hc j s i u hs hu)⟩, fun s hs => ⟨(h.2 s hs).1.below hb, (h.2 s hs).2⟩⟩
theorem RdS.more (h : RdS w B A ss) (hB : B ≤ B') : RdS w B' A ss :=
  ⟨h.1.imp id fun ⟨ad, e, hlt, hc⟩ => ⟨ad, e, by omega, hc⟩, fun s hs => ⟨(h.2 s hs).1.more hB, (h.2 s hs).2⟩⟩
theorem RdS.next (h : RdS w w.heap.size A ss) (hb : Below w.heap.size w w') : RdS w' w'.heap.size A ss := (h.below hb).more hb.size
theorem add_two (ad : Addr) (m n : Nat) : (⟨(ad.add m).block, (ad.add m).off + (n + 1), none⟩ : Addr) = ad.add (m + (n + 1)) := by
  unfold Addr.add
  by_cases hm : m = 0 <;> simp [hm, Nat.add_assoc]
theorem RdS.at_ {k : Nat} (h : RdS w B A ss) (hk : k < ss.length) : ∃ ad, A = some ad ∧ ad.block < B ∧ w.cell? (ad.add (k * 4)) = some (.string ss[k].nm) ∧ w.cell? ⟨(ad.add (k * 4)).block, (ad.add (k * 4)).off + 1, none⟩ = some (.int .i64 ss[k].wd) ∧ w.cell? ⟨(ad.add (k * 4)).block, (ad.add (k * 4)).off + 2, none⟩ = some (.int .i64 ss[k].hg) ∧ w.cell? ⟨(ad.add (k * 4)).block, (ad.add (k * 4)).off + 3, none⟩ = some (.slice ss[k].A ss[k].bs.length ss[k].c) := by
  rcases h.1 with rfl | ⟨ad, e, hb, hc⟩
  · simp at hk
  · have hs := List.getElem?_eq_getElem hk
    refine ⟨ad, e, hb, hc k _ 0 _ hs rfl, ?_, ?_, ?_⟩
    · rw [add_two ad (k * 4) 0]; exact hc k _ 1 _ hs rfl
    · rw [add_two ad (k * 4) 1]; exact hc k _ 2 _ hs rfl
    · rw [add_two ad (k * 4) 2]; exact hc k _ 3 _ hs rfl
theorem RdS.part {k : Nat} (h : RdS w B A ss) (hk : k < ss.length) : Rd w B ss[k].A (ss[k].bs.map Value.bool) ∧ ss[k].nm.size ≤ 9223372036854775807 ∧ ss[k].bs.length ≤ 9223372036854775807 := h.2 _ (List.getElem_mem hk)
end
set_option maxHeartbeats 2000000 in
theorem szShapeS_yes (A : Option Addr) (n c : Nat) (ss : List Sh) (left : Int) (w : World) (hn : ss.length = n) (h1 : left ≤ 1048576) (h : (n : Int) + (szN ss : Int) ≤ left) (hr : RdS w w.heap.size A ss) :
    Calls Try.prog 49 #[.slice A n c, .int .i64 left] w fun e w' => e = .returned (.int .i64 (left - n - szN ss)) ∧ Below w.heap.size w w' := by
  have Hn := Lib.hid hn; clear hn
  have Hr := Lib.hid hr; clear hr
  have h2 : ¬ (left - (n : Int) < 0) := by omega
  go_enter Try.func49, Try.ntmps49
  go_wp2
  go_loopw [1, 5] (fun v i wr => ∃ k : Nat, k ≤ n ∧ i = .int .i64 k ∧ v = .int .i64 (left - n - (szN (ss.take k) : Int)) ∧ Below w.heap.size w wr) (fun _ i _ => n - (intOf i).toNat)
  case atStart => exact ⟨0, Nat.zero_le _, rfl, by simp [szN], Below.refl _ _⟩
  case round =>
    obtain ⟨k, hk, rfl, rfl, hb⟩ := hrel
    have HB := Lib.hid hb; clear hb
    have hle := szN_le (ss := ss) k
    by_cases hlt : k < n
    · have hka : k < ss.length := by rw [Hn.out]; exact hlt
      have hsn := szN_snoc hka
      have hle1 := szN_le (ss := ss) (k + 1)
      obtain ⟨ad, rfl, _, hc0, hc1, hc2, hc3⟩ := (Hr.out.below HB.out).at_ hka
      obtain ⟨s, hs⟩ : ∃ s, s = ss[k] := ⟨_, rfl⟩
      rw [← hs] at hc0 hc1 hc2 hc3 hsn
      clear hs
      go_wp2_with fail
      refine (szShape_yes s.nm s.wd s.hg s.A s.bs.length s.c _ wr (by omega) (by omega)).mono ?_
      rintro e w1 ⟨rfl, hb1⟩
      have HB1 := Lib.hid (bthen HB.out hb1)
      have HS := Lib.hid hsn
      have hnn : ¬ (left - (n : Int) - (szN (ss.take k) : Int) - (s.nm.size : Int) - (s.bs.length : Int) < 0) := by omega
      clear hb1 hsn hc0 hc1 hc2 hc3
      go_wp2
      go_roundw
      case rel => exact ⟨k + 1, by omega, by go_num, by rw [HS.out]; congr 1; omega, HB1.out⟩
      case measure => simp [intOf]; omega
    · obtain rfl : n = k := by omega
      have HT : Hid (ss.take n = ss) := Lib.hid (List.take_of_length_le (by rw [Hn.out]; omega))
      go_wp2
      go_ret
      exact ⟨by rw [HT.out]; rfl, HB.out⟩
set_option maxHeartbeats 2000000 in
theorem szShapeS_no (A : Option Addr) (n c : Nat) (ss : List Sh) (left : Int) (w : World) (hn : ss.length = n) (hm : n ≤ 9223372036854775807) (h0 : 0 ≤ left) (h1 : left ≤ 1048576) (h : left < (n : Int) + (szN ss : Int)) (hr : RdS w w.heap.size A ss) :
    Calls Try.prog 49 #[.slice A n c, .int .i64 left] w fun e w' => e = .returned (.int .i64 (-1)) ∧ Below w.heap.size w w' := by
  have Hn := Lib.hid hn; clear hn
  have Hr := Lib.hid hr; clear hr
  have hneg : (-1 : Int) < 0 := by omega
  by_cases hnl : (n : Int) ≤ left
  · have h2 : ¬ (left - (n : Int) < 0) := by omega
    go_enter Try.func49, Try.ntmps49
    go_wp2
    go_loopw [1, 5] (fun v i wr => ∃ k : Nat, k ≤ n ∧ i = .int .i64 k ∧ v = .int .i64 (left - n - (szN (ss.take k) : Int)) ∧ 0 ≤ left - n - (szN (ss.take k) : Int) ∧ Below w.heap.size w wr) (fun _ i _ => n - (intOf i).toNat)
    case atStart => exact ⟨0, Nat.zero_le _, rfl, by simp [szN], by simp [szN]; omega, Below.refl _ _⟩
    case round =>
      obtain ⟨k, hk, rfl, rfl, h3, hb⟩ := hrel
      have HB := Lib.hid hb; clear hb
      by_cases hlt : k < n
      · have hka : k < ss.length := by rw [Hn.out]; exact hlt
        have hsn := szN_snoc hka
        obtain ⟨ad, rfl, _, hc0, hc1, hc2, hc3⟩ := (Hr.out.below HB.out).at_ hka
        obtain ⟨_, hp1, hp2⟩ := Hr.out.part hka
        obtain ⟨s, hs⟩ : ∃ s, s = ss[k] := ⟨_, rfl⟩
        rw [← hs] at hc0 hc1 hc2 hc3 hsn hp1 hp2
        clear hs
        by_cases hok : (s.nm.size : Int) + (s.bs.length : Int) ≤ left - n - (szN (ss.take k) : Int)
        · go_wp2_with fail
          refine (szShape_yes s.nm s.wd s.hg s.A s.bs.length s.c _ wr (by omega) hok).mono ?_
          rintro e w1 ⟨rfl, hb1⟩
          have HB1 := Lib.hid (bthen HB.out hb1)
          have HS := Lib.hid hsn
          have hnn : ¬ (left - (n : Int) - (szN (ss.take k) : Int) - (s.nm.size : Int) - (s.bs.length : Int) < 0) := by omega
          clear hb1 hsn hc0 hc1 hc2 hc3 hp1 hp2
          go_wp2
          go_roundw
          case rel => exact ⟨k + 1, by omega, by go_num, by rw [HS.out]; congr 1; omega, by rw [HS.out]; omega, HB1.out⟩
          case measure => simp [intOf]; omega
        · by_cases hq : (s.nm.size : Int) ≤ left - n - (szN (ss.take k) : Int)
          · go_wp2_with fail
            refine (szShape_no2 s.nm s.wd s.hg s.A s.bs.length s.c _ wr (by omega) hp2 hq (by omega)).mono ?_
            rintro e w1 ⟨rfl, hb1⟩
            have HB1 := Lib.hid (bthen HB.out hb1)
            clear hb1 hsn hc0 hc1 hc2 hc3 hp1 hp2
            go_wp2
            go_ret
            exact ⟨rfl, HB1.out⟩
          · go_wp2_with fail
            refine (szShape_no1 s.nm s.wd s.hg s.A s.bs.length s.c _ wr (by omega) (by omega) hp1 (by omega)).mono ?_
            rintro e w1 ⟨rfl, hb1⟩
            have HB1 := Lib.hid (bthen HB.out hb1)
            clear hb1 hsn hc0 hc1 hc2 hc3 hp1 hp2
            go_wp2
            go_ret
            exact ⟨rfl, HB1.out⟩
      · obtain rfl : n = k := by omega
        have hT : ss.take n = ss := List.take_of_length_le (by rw [Hn.out]; omega)
        rw [hT] at h3
        omega
  · have h2 : left - (n : Int) < 0 := by omega
    go_enter Try.func49, Try.ntmps49
    go_wp2
    go_ret
    exact ⟨rfl, Below.refl _ _⟩
theorem Try.info52 : (Try.prog.info? 52).map (fun i => (i.zero, i.size, i.bytes)) = some (some (.agg #[.string ⟨#[]⟩, .int .i64 0, .int .i64 0, .slice none 0 0]), 4, 56) := by kernel_rfl
/-- block g is a row of n shapes, the first of which are these -/
def RowS (w : World) (g n : Nat) (ss : List Sh) : Prop :=
  ∃ cur, w.heap[g]? = some (.cells cur 52 (0, 0)) ∧ cur.size = n * 4 ∧ ∀ j s i u, ss[j]? = some s → s.cells[i]? = some u → cur[j * 4 + i]? = some u
def Sh.key (s : Sh) : ByteArray × Int × Int × List Bool := (s.nm, s.wd, s.hg, s.bs)
/-- e gives a row of shapes with the same names, sides and cells -/
def GivesRowS (n : Nat) (ss : List Sh) (e : Ending) (w' : World) : Prop :=
  ∃ g ss', e = .returned (.slice (some ⟨g, 0, none⟩) n n) ∧ RdS w' w'.heap.size (some ⟨g, 0, none⟩) ss' ∧ ss'.map Sh.key = ss.map Sh.key
theorem row_made {w : World} {B g n : Nat} {xs : List Value} (h : w.ownsRow B 52 4 (.slice (some ⟨g, 0, none⟩) n n) n xs) : RowS w g n [] := by
  rcases h.2 with ⟨hv, _⟩ | ⟨g', cap, cur, hv, _, hg, hn, _, hs, ht⟩
  · cases hv
  · injection hv with h1 h2 h3
    have h1 := Option.some.inj h1
    injection h1 with h1
    subst h1 h3
    exact ⟨cur, hg, hs, fun j s i u hj => by simp at hj⟩
theorem RowS.below {w w' : World} {g n B : Nat} {ss : List Sh} (h : RowS w g n ss) (hb : Below B w w') (hg : g < B) : RowS w' g n ss := by
  obtain ⟨cur, h1, h2⟩ := h
  exact ⟨cur, by rw [hb.block g hg]; exact h1, h2⟩
theorem RowS.old {w : World} {g n j : Nat} {ss : List Sh} (h : RowS w g n ss) (hj : j < n * 4) : (∃ u, w.cell? ⟨g, j, none⟩ = some u) ∧ w.frozen? ⟨g, j, none⟩ = false := by
  obtain ⟨cur, h1, h2, _⟩ := h
  refine ⟨⟨cur[j]'(by omega), ?_⟩, ?_⟩
  · rw [cell_of_row w g j cur 52 (0, 0) h1]; exact Array.getElem?_eq_getElem _
  · exact frozen_of_row w g j cur 52 h1
/-- four stores -/
def put4 (w : World) (g j : Nat) (a b c d : Value) : World := (((w.setCell ⟨g, j, none⟩ a).setCell ⟨g, j + 1, none⟩ b).setCell ⟨g, j + 2, none⟩ c).setCell ⟨g, j + 3, none⟩ d
theorem put4_size (w : World) (g j : Nat) (a b c d : Value) : (put4 w g j a b c d).heap.size = w.heap.size := by
  unfold put4; rw [World.size_setCell, World.size_setCell, World.size_setCell, World.size_setCell]
theorem RowS.put {w : World} {g n k : Nat} {ss : List Sh} (h : RowS w g n ss) (hl : ss.length = k) (hkn : k < n) (s : Sh) :
    RowS (put4 w g (k * 4) (.string s.nm) (.int .i64 s.wd) (.int .i64 s.hg) (.slice s.A s.bs.length s.c)) g n (ss ++ [s]) := by
  obtain ⟨cur, h1, h2, h3⟩ := h
  refine ⟨_, heap_setCell_same _ g _ _ 52 _ (heap_setCell_same _ g _ _ 52 _ (heap_setCell_same _ g _ _ 52 _ (heap_setCell_same w g _ cur 52 _ h1))), by simp [h2], ?_⟩
  intro j t i u hj hu
  have hi4 : i < 4 := by
    have := (List.getElem?_eq_some_iff.1 hu).1
    simpa [Sh.cells] using this
  rw [List.getElem?_append] at hj
  split at hj
  · rename_i hlt
    have hold := h3 j t i u hj hu
    have hjk : j * 4 + i < k * 4 := by omega
    rw [Array.getElem?_setIfInBounds_ne (by omega), Array.getElem?_setIfInBounds_ne (by omega), Array.getElem?_setIfInBounds_ne (by omega), Array.getElem?_setIfInBounds_ne (by omega)]
    exact hold
  · rename_i hge
    have hjk : j = k := by
      have h4 := (List.getElem?_eq_some_iff.1 hj).1
      simp at h4
      omega
    subst hjk
    rw [hl, Nat.sub_self] at hj
    obtain rfl : s = t := by simpa using hj
    have hcs : j * 4 + 4 ≤ cur.size := by rw [h2]; omega
    have hcases : i = 0 ∨ i = 1 ∨ i = 2 ∨ i = 3 := by omega
    rcases hcases with rfl | rfl | rfl | rfl
    all_goals
      simp only [Sh.cells, List.getElem?_cons_zero, List.getElem?_cons_succ] at hu
      have hu := Option.some.inj hu
      subst hu
    · rw [Array.getElem?_setIfInBounds_ne (by omega), Array.getElem?_setIfInBounds_ne (by omega), Array.getElem?_setIfInBounds_ne (by omega)]
      exact Array.getElem?_setIfInBounds_self_of_lt (by omega)
    · rw [Array.getElem?_setIfInBounds_ne (by omega), Array.getElem?_setIfInBounds_ne (by omega)]
      exact Array.getElem?_setIfInBounds_self_of_lt (by simp; omega)
    · rw [Array.getElem?_setIfInBounds_ne (by omega)]
      exact Array.getElem?_setIfInBounds_self_of_lt (by simp; omega)
    · exact Array.getElem?_setIfInBounds_self_of_lt (by simp; omega)
theorem Rd.setOther {w : World} {B : Nat} {A : Option Addr} {xs : List Value} (h : Rd w B A xs) {p : Addr} (hp : ∀ ad, A = some ad → ad.block ≠ p.block) (u : Value) : Rd (w.setCell p u) B A xs := by
  rcases h with h | ⟨ad, e, hb, hc⟩
  · exact .inl h
  · refine .inr ⟨ad, e, hb, fun j v hv => ?_⟩
    rw [World.cell?_setCell_other]
    · exact hc j v hv
    · intro he
      exact hp ad e (by rw [he, add_block])
/-- the cells of a shape of a row lie in another block than g -/
def Aside (w : World) (g : Nat) (s : Sh) : Prop := (∃ ad, s.A = some ad ∧ ad.block ≠ g) ∧ Rd w w.heap.size s.A (s.bs.map Value.bool) ∧ s.nm.size ≤ 9223372036854775807 ∧ s.bs.length ≤ 9223372036854775807
theorem Aside.next {w w' : World} {g : Nat} {s : Sh} (h : Aside w g s) (hb : Below w.heap.size w w') : Aside w' g s := ⟨h.1, h.2.1.next hb, h.2.2⟩
theorem Aside.put {w : World} {g j : Nat} {s : Sh} (h : Aside w g s) (a b c d : Value) : Aside (put4 w g j a b c d) g s := by
  refine ⟨h.1, ?_, h.2.2⟩
  rw [put4_size]
  have hp : ∀ ad, s.A = some ad → ad.block ≠ g := fun ad he => by
    obtain ⟨ad', he', hne⟩ := h.1
    obtain rfl : ad' = ad := Option.some.inj (he'.symm.trans he)
    exact hne
  exact (((h.2.1.setOther hp a).setOther hp b).setOther hp c).setOther hp d
theorem RowS.reads {w : World} {g n : Nat} {ss : List Sh} (h : RowS w g n ss) (ha : ∀ s ∈ ss, Aside w g s) : RdS w w.heap.size (some ⟨g, 0, none⟩) ss := by
  obtain ⟨cur, h1, h2, h3⟩ := h
  refine ⟨.inr ⟨_, rfl, (Array.getElem?_eq_some_iff.1 h1).1, fun j s i u hj hu => ?_⟩, fun s hs => (ha s hs).2⟩
  rw [add_flat, Nat.zero_add, cell_of_row w g _ cur 52 (0, 0) h1]
  exact h3 j s i u hj hu
theorem below_put4 {w w' : World} {B g j : Nat} (h : Below B w w') (hg : B ≤ g) (a b c d : Value) : Below B w (put4 w' g j a b c d) :=
  (((h.setCell (p := ⟨g, j, none⟩) hg a).setCell (p := ⟨g, j + 1, none⟩) hg b).setCell (p := ⟨g, j + 2, none⟩) hg c).setCell (p := ⟨g, j + 3, none⟩) hg d
set_option maxHeartbeats 2000000 in
theorem toShapeS_any (A : Option Addr) (n c : Nat) (ss : List Sh) (w : World) (hn : ss.length = n) (hm : n ≤ 1048576) (hl : szN ss ≤ 1048576) (hr : RdS w w.heap.size A ss) :
    Calls Try.prog 51 #[.slice A n c] w fun e w' => GivesRowS n ss e w' ∧ Below w.heap.size w w' := by
  obtain ⟨i0, hi, hz0, hz1, hz2⟩ := info_parts Try.info52
  have Hn := Lib.hid hn; clear hn
  have Hr := Lib.hid hr; clear hr
  go_enter Try.func51, Try.ntmps51
  go_wp2_with (at_make; go_must (refine wpList_make_full _ rfl _ _ 63 rfl w.heap.size 52 i0 (.agg #[.string ⟨#[]⟩, .int .i64 0, .int .i64 0, .slice none 0 0]) 4 Try.underlying63 hi hz0 hz1 _ _ _ _ n rfl rfl rfl rfl ?_ ?_ ?_ ?_))
  · rw [hz2]; omega
  · unfold maxLen; omega
  · exact Nat.le_refl _
  intro w1 hown hgrow
  have HB := (Below.refl w.heap.size w).grown hgrow (Nat.le_refl _) (fun k hk => by cases hk)
  have HW := row_made hown
  have hz1' : w.heap.size < w1.heap.size := (hown.lt _ rfl).2
  clear hgrow hown
  go_wp2
  go_loopw [4] (fun i wr => ∃ (k : Nat) (ss' : List Sh), k ≤ n ∧ i = .int .i64 k ∧ Hid (ss'.length = k) ∧ RowS wr w.heap.size n ss' ∧ Hid (∀ s ∈ ss', Aside wr w.heap.size s) ∧ Hid (ss'.map Sh.key = (ss.take k).map Sh.key) ∧ Below w.heap.size w wr ∧ w.heap.size < wr.heap.size) (fun i _ => n - (intOf i).toNat)
  case atStart => exact ⟨0, [], Nat.zero_le _, rfl, Lib.hid rfl, HW, Lib.hid (by simp), Lib.hid rfl, HB, hz1'⟩
  case round =>
    obtain ⟨k, ss', hk, rfl, HL, hw, HA, HK, hb, hz⟩ := hrel
    have HB2 := Lib.hid hb
    have HW2 := Lib.hid hw
    clear hb hw HB HW
    by_cases hlt : k < n
    · have hka : k < ss.length := by rw [Hn.out]; exact hlt
      have hsn := szN_snoc hka
      have hle := szN_le (ss := ss) (k + 1)
      obtain ⟨ad, rfl, _, hc0, hc1, hc2, hc3⟩ := (Hr.out.below HB2.out).at_ hka
      have hp := (Hr.out.below HB2.out).part hka
      have HKS : Hid ((ss.take (k + 1)).map Sh.key = (ss.take k).map Sh.key ++ [Sh.key ss[k]]) := Lib.hid (by rw [List.take_succ_eq_append_getElem hka, List.map_append]; rfl)
      obtain ⟨s, hs⟩ : ∃ s, s = ss[k] := ⟨_, rfl⟩
      rw [← hs] at hc0 hc1 hc2 hc3 hsn hp HKS
      have hsb : s.bs.length ≤ 140737488351232 := by omega
      have HC := Lib.hid (toShape_any s.nm s.wd s.hg s.A s.bs.length s.c s.bs wr rfl hsb (hp.1.more HB2.out.size))
      have HP := Lib.hid hp
      clear hs hp hsn hle
      go_wp2_with fail
      refine HC.out.mono ?_
      rintro e w3 ⟨⟨g3, c3, rfl, ho3⟩, hb3⟩
      have HW3 := Lib.hid (HW2.out.below hb3 hz)
      have HB3 := Lib.hid (bthen HB2.out hb3)
      have hz3 : w.heap.size < w3.heap.size := by have := hb3.size; omega
      obtain ⟨⟨u0, d0⟩, f0⟩ := HW3.out.old (j := k * 4) (by omega)
      obtain ⟨⟨u1, d1⟩, f1⟩ := HW3.out.old (j := k * 4 + 1) (by omega)
      obtain ⟨⟨u2, d2⟩, f2⟩ := HW3.out.old (j := k * 4 + 2) (by omega)
      obtain ⟨⟨u3, d3⟩, f3⟩ := HW3.out.old (j := k * 4 + 3) (by omega)
      have HB4 := Lib.hid hb3
      have HO3 := Lib.hid ho3
      clear hc0 hc1 hc2 hc3 hb3 ho3
      have hg3 := (HO3.out.lt g3 rfl).1
      have HN : Hid (Aside w3 w.heap.size ⟨s.nm, s.wd, s.hg, s.bs, some ⟨g3, 0, none⟩, c3⟩) := Lib.hid ⟨⟨_, rfl, by show g3 ≠ _; omega⟩, Rd.own HO3.out, HP.out.2⟩
      have HQ := Lib.hid (HW3.out.put HL.out hlt ⟨s.nm, s.wd, s.hg, s.bs, some ⟨g3, 0, none⟩, c3⟩)
      have HA4 : Hid (∀ s_1 ∈ ss' ++ [(⟨s.nm, s.wd, s.hg, s.bs, some ⟨g3, 0, none⟩, c3⟩ : Sh)], Aside (put4 w3 w.heap.size (k * 4) (.string s.nm) (.int .i64 s.wd) (.int .i64 s.hg) (.slice (some ⟨g3, 0, none⟩) s.bs.length c3)) w.heap.size s_1) := Lib.hid (by
        intro t ht
        rw [List.mem_append, List.mem_singleton] at ht
        rcases ht with ht | rfl
        · exact ((HA.out t ht).next HB4.out).put _ _ _ _
        · exact HN.out.put _ _ _ _)
      have HB5 := Lib.hid (below_put4 (j := k * 4) HB3.out (Nat.le_refl _) (.string s.nm) (.int .i64 s.wd) (.int .i64 s.hg) (.slice (some ⟨g3, 0, none⟩) s.bs.length c3))
      have HZ5 : Hid (w.heap.size < (put4 w3 w.heap.size (k * 4) (.string s.nm) (.int .i64 s.wd) (.int .i64 s.hg) (.slice (some ⟨g3, 0, none⟩) s.bs.length c3)).heap.size) := Lib.hid (by rw [put4_size]; exact hz3)
      have HK5 : Hid ((ss' ++ [(⟨s.nm, s.wd, s.hg, s.bs, some ⟨g3, 0, none⟩, c3⟩ : Sh)]).map Sh.key = (ss.take (k + 1)).map Sh.key) := Lib.hid (by rw [HKS.out, List.map_append, HK.out]; rfl)
      have HL5 : Hid ((ss' ++ [(⟨s.nm, s.wd, s.hg, s.bs, some ⟨g3, 0, none⟩, c3⟩ : Sh)]).length = k + 1) := Lib.hid (by rw [List.length_append, HL.out]; rfl)
      go_wp2
      go_roundw
      case rel => exact ⟨k + 1, _, by omega, by go_num, HL5, HQ.out, HA4, HK5, HB5.out, HZ5.out⟩
      case measure => simp [intOf]; omega
    · obtain rfl : n = k := by omega
      have HT : Hid (ss.take n = ss) := Lib.hid (List.take_of_length_le (by rw [Hn.out]; omega))
      go_wp2
      go_ret
      exact ⟨⟨_, ss', rfl, HW2.out.reads HA.out, by rw [HK.out, HT.out]⟩, HB2.out⟩
end Go.Proofs.Ytbefcfdmaafghaa
