/- FlipCells, both ways. -/
import Derived.Test.YtbefcfdmaafghaaClone
import Derived.Test.YtbefcfdmaafghaaWithin
import Derived.StillTailTactics
namespace Go.Proofs.Ytbefcfdmaafghaa
open Go.RowKit
def flip1 (bs : List Bool) (x : Int) : List Bool := bs.set x.toNat (!((bs[x.toNat]?).getD false))
def flips (bs : List Bool) (xs : List Int) : List Bool := xs.foldl flip1 bs
theorem flip1_len (bs : List Bool) (x : Int) : (flip1 bs x).length = bs.length := by simp [flip1]
theorem flips_len (bs : List Bool) (xs : List Int) : (flips bs xs).length = bs.length := by
  unfold flips
  induction xs generalizing bs with
  | nil => rfl
  | cons x r ih => rw [List.foldl_cons, ih, flip1_len]
theorem flips_snoc {bs : List Bool} {xs : List Int} {k : Nat} (h : k < xs.length) : flips bs (xs.take (k + 1)) = flip1 (flips bs (xs.take k)) xs[k] := by
  unfold flips
  rw [List.take_succ_eq_append_getElem h, List.foldl_append]
  rfl
theorem rng_at {n : Nat} {xs : List Int} (h : rngI 0 ((n : Int) - 1) xs = true) {k : Nat} (hk : k < xs.length) : 0 ≤ xs[k] ∧ xs[k] < n := by
  unfold rngI at h
  simp only [Bool.not_eq_true', List.any_eq_false] at h
  have h1 := h xs[k] (List.getElem_mem hk)
  simp [inB] at h1
  omega
theorem GivesField.parts {B : Nat} {wd hg : Int} {bs : List Bool} {e : Ending} {w' : World} (h : GivesField B wd hg bs e w') : ∃ g c, e = .returned (.agg #[.int .i64 wd, .int .i64 hg, .slice (some ⟨g, 0, none⟩) bs.length c]) ∧ w'.ownsRow B 4 1 (.slice (some ⟨g, 0, none⟩) bs.length c) bs.length (bs.map Value.bool) := h
theorem own_drew {w : World} {base : Nat} {e : TypeId} {size : Nat} {v : Value} {n : Nat} {xs : List Value} (h : w.ownsRow base e size v n xs) : w.drew.ownsRow base e size v n xs := h
theorem grown_drew {w : World} {r : Option Nat} : w.grownBy w.drew r := ⟨rfl, rfl, rfl, Nat.le_refl _, fun _ _ _ => rfl⟩
theorem Open3.grown {w w' : World} {b : Nat} {r : Option Nat} (h : Open3 w b) (hg : w.grownBy w' r) (hlt : b < w.heap.size) (hne : some b ≠ r) : Open3 w' b := by
  have hb := hg.block b hlt hne
  have hc : ∀ o, w'.cell? ⟨b, o, none⟩ = w.cell? ⟨b, o, none⟩ := fun o => World.cell?_of_block (a := ⟨b, o, none⟩) hb
  have hf : ∀ o, w'.frozen? ⟨b, o, none⟩ = w.frozen? ⟨b, o, none⟩ := fun o => World.frozen?_of_block (a := ⟨b, o, none⟩) hb
  exact ⟨⟨(hc 0).trans h.1.1, (hc 1).trans h.1.2.1, (hc 2).trans h.1.2.2⟩, (hf 0).trans h.2.1, (hf 1).trans h.2.2.1, (hf 2).trans h.2.2.2⟩
theorem Open3.new (w : World) : Open3 (w.alloc (.cells #[.int .i64 0, .int .i64 0, .slice none 0 0] 27)) w.heap.size :=
  ⟨⟨by simp [go_sem], by simp [go_sem], by simp [go_sem]⟩, by simp [go_sem], by simp [go_sem], by simp [go_sem]⟩
/-- a store into the row, behind a draw -/
theorem flip_stored {w w' : World} {B g n cp : Nat} {bs : List Bool} {x : Int} (ho : w'.ownsRow B 4 1 (.slice (some ⟨g, 0, none⟩) n cp) n (bs.map Value.bool)) (hg : w.grownBy w' (some g)) :
    (w'.setCell ⟨g, x.toNat, none⟩ (.bool (!((bs[x.toNat]?).getD false)))).ownsRow B 4 1 (.slice (some ⟨g, 0, none⟩) n cp) n ((flip1 bs x).map Value.bool) ∧ w.grownBy (w'.setCell ⟨g, x.toNat, none⟩ (.bool (!((bs[x.toNat]?).getD false)))) (some g) := by
  have hs := ho.stored x.toNat (.bool (!((bs[x.toNat]?).getD false)))
  refine ⟨?_, World.grownBy.trans' hg hs.2⟩
  have h1 := hs.1
  rw [← List.map_set] at h1
  exact h1

set_option maxHeartbeats 2000000 in
set_option maxRecDepth 100000 in
theorem flipCells_yes (wd hg : Int) (A A' : Option Addr) (n c m c' : Nat) (bs : List Bool) (xs : List Int) (w : World) (hn : bs.length = n) (hm : xs.length = m) (hm1 : m ≤ 1048576) (hr : Rd w w.heap.size A (bs.map Value.bool)) (hr' : Rd w w.heap.size A' (xs.map (Value.int .i64)))
    (hv : vF wd hg n = true) (hi : incI xs = true) (hq : rngI 0 ((n : Int) - 1) xs = true) :
    Calls Try.prog 56 #[.agg #[.int .i64 wd, .int .i64 hg, .slice A n c], .slice A' m c'] w fun e w' => GivesFB w.heap.size wd hg (flips bs xs) true e w' ∧ Below w.heap.size w w' := by
  obtain ⟨⟨⟨h1, h2⟩, h3, h4⟩, h5⟩ := vF_iff.1 hv
  obtain ⟨q1, q2⟩ := prod_bd h1 h2 h3 h4
  have n0 : 0 < n := by omega
  have n1 : n ≤ 256 := by omega
  have C22 := fun W => validField_any wd hg A n c W (by omega)
  have C99 := fun W hr => isIncreasing_any A' m c' xs W hm (by omega) hr
  have C100 := fun W hr => areWithin_any A' m c' xs 0 ((n : Int) - 1) W hm (by omega) hr
  have C101 := fun W hr => copyField_any wd hg A n c bs W hn n0 (by omega) hr
  rw [hv] at C22
  rw [hi] at C99
  rw [hq] at C100
  have H22 := Lib.hid C22; have H99 := Lib.hid C99; have H100 := Lib.hid C100; have H101 := Lib.hid C101
  have Hr := Lib.hid hr; have Hr' := Lib.hid hr'; have Hn := Lib.hid hn; have Hm := Lib.hid hm
  have HQ := Lib.hid hq
  clear C22 C99 C100 C101 hr hr' hn hm hv hi hq h5
  obtain ⟨W0, hW0⟩ : ∃ W0, W0 = (w.alloc (.cells #[.int .i64 wd, .int .i64 hg, .slice A n c] 27)).alloc (.cells #[.int .i64 0, .int .i64 0, .slice none 0 0] 27) := ⟨_, rfl⟩
  have B0 : Hid (Below w.heap.size w W0) := Lib.hid (by rw [hW0]; exact bthen (below_new w _) (below_new _ _))
  have z0 : W0.heap.size = w.heap.size + 2 := by rw [hW0]; simp
  have K0 : FBox W0 w.heap.size wd hg (.slice A n c) := by rw [hW0]; exact ⟨by simp [go_sem], by simp [go_sem], by simp [go_sem]⟩
  have X0 : Hid (Open3 W0 (w.heap.size + 1)) := Lib.hid (by rw [hW0]; simpa using Open3.new (w.alloc (.cells #[.int .i64 wd, .int .i64 hg, .slice A n c] 27)))
  have R0 := Lib.hid ((Hr.out.below B0.out).more B0.out.size)
  have R0' := Lib.hid ((Hr'.out.below B0.out).more B0.out.size)
  go_enter Try.func56, Try.ntmps56
  go_wp2_with fail
  rw [← hW0]
  have Z0 := Lib.hid z0
  clear hW0 z0
  have K0 := Lib.hid K0
  obtain ⟨k0, k1, k2⟩ := K0.out
  refine (H22.out _).mono ?_
  rintro e w1 ⟨rfl, hb1⟩
  have B1 := Lib.hid hb1
  clear hb1 k0 k1 k2
  have hz0 : w.heap.size + 1 < W0.heap.size := by rw [Z0.out]; omega
  obtain ⟨k0, k1, k2⟩ := K0.out.below B1.out (by omega)
  go_wp2_with fail
  refine (H99.out _ ((R0'.out.below B1.out).more B1.out.size)).mono ?_
  rintro e w2 ⟨rfl, m2, rfl⟩
  have B2 := Lib.hid (below_drewN B1.out m2)
  clear B1
  have hwr : IntKind.i64.wrap ((n : Int) - 1) = (n : Int) - 1 := by rw [IntKind.wrap_i64]; omega
  go_wp2_with fail
  refine (H100.out _ ((R0'.out.below B2.out).more B2.out.size)).mono ?_
  rintro e w3 ⟨rfl, hb3⟩
  have B3 := Lib.hid (bthen B2.out hb3)
  clear hb3 B2 k0 k1 k2 hwr
  obtain ⟨k0, k1, k2⟩ := K0.out.below B3.out (by omega)
  go_wp2_with fail
  refine (H101.out _ ((R0.out.below B3.out).more B3.out.size)).mono ?_
  rintro e w4 ⟨hgf, hb4⟩
  obtain ⟨g, cp, rfl, ho4⟩ := hgf.parts
  have hg4 := (ho4.lt g rfl).1
  have B4 := Lib.hid (bthen B3.out hb4)
  have hz3 := B3.out.size
  have hz4 := hb4.size
  have hgz := (ho4.lt g rfl).2
  have O4 := Lib.hid (own_base (b' := W0.heap.size) ho4 hz3)
  clear hgf ho4 hb4 B3 k0 k1 k2
  go_wp2_with fail
  obtain ⟨W5, hW5⟩ : ∃ W5, W5 = w4.alloc (.cells #[.int .i64 wd, .int .i64 hg, .slice (some ⟨g, 0, none⟩) bs.length cp] 27) := ⟨_, rfl⟩
  rw [← hW5]
  have hb5 : Below w4.heap.size w4 W5 := by rw [hW5]; exact below_new _ _
  have K5 : Hid (FBox W5 w4.heap.size wd hg (.slice (some ⟨g, 0, none⟩) bs.length cp)) := Lib.hid (by rw [hW5]; exact FBox.new _ _ _ _ _)
  have B5 := Lib.hid (bthen B4.out hb5)
  have O5 := Lib.hid (own_next O4.out hb5)
  have hz5 : w4.heap.size < W5.heap.size := by rw [hW5]; simp
  have X5 := Lib.hid (X0.out.below B5.out (by omega))
  have R5 := Lib.hid ((R0'.out.below B5.out).more B5.out.size)
  clear hW5 hb5 B4 O4
  go_loopw [8, 31] (fun _ i wr => ∃ k : Nat, k ≤ m ∧ i = .int .i64 k ∧ wr.ownsRow W0.heap.size 4 1 (.slice (some ⟨g, 0, none⟩) bs.length cp) bs.length ((flips bs (xs.take k)).map Value.bool) ∧ W5.grownBy wr (some g)) (fun _ i _ => m - (intOf i).toNat)
  case atStart => exact ⟨0, Nat.zero_le _, rfl, O5.out, World.grownBy.refl _ _⟩
  case round =>
    obtain ⟨k, hk, rfl, ho, hgr⟩ := hrel
    have HO := Lib.hid ho
    have HG := Lib.hid hgr
    have K6 := Lib.hid (K5.out.grown hgr hz5 (by intro h; injection h; omega))
    have X6 := Lib.hid (X5.out.grown hgr (by omega) (by intro h; injection h; omega))
    have R6 := Lib.hid ((R0'.out.below (B5.out.grown hgr B5.out.size (fun j hj => by injection hj; omega))).more (by have := hgr.size; have := B5.out.size; omega))
    clear ho hgr
    by_cases hlt : k < m
    · have hka : k < xs.length := by rw [Hm.out]; exact hlt
      obtain ⟨p1, p2⟩ := rng_at HQ.out hka
      have HS := Lib.hid (flips_snoc (bs := bs) hka)
      obtain ⟨ad, rfl, _, hcell⟩ := R6.out.at_ (k := k) (by rw [List.length_map]; exact hka)
      rw [List.getElem_map] at hcell
      obtain ⟨x, hx⟩ : ∃ x, x = xs[k] := ⟨_, rfl⟩
      rw [← hx] at hcell p1 p2 HS
      obtain ⟨fb, hfb⟩ : ∃ fb, fb = flips bs (xs.take k) := ⟨_, rfl⟩
      have hfl : fb.length = n := by rw [hfb, flips_len, Hn.out]
      rw [← hfb] at HO HS
      clear hx hfb
      have hxl : x.toNat < fb.length := by omega
      have hc : wr.cell? ⟨g, x.toNat, none⟩ = some (.bool fb[x.toNat]) := by
        rw [HO.out.cellAt x.toNat (by rw [Hn.out]; omega), List.getElem?_map, List.getElem?_eq_getElem hxl]; rfl
      have hf := HO.out.frozenAt x.toNat
      have HT := Lib.hid (flip_stored (x := x) HO.out HG.out)
      rw [List.getElem?_eq_getElem hxl, Option.getD_some] at HT
      have p3 : x < (bs.length : Int) := by rw [Hn.out]; exact p2
      have hbn : fb[x.toNat]'hxl = true ∨ fb[x.toNat]'hxl = false := by cases fb[x.toNat]'hxl <;> simp
      obtain ⟨y, hy⟩ : ∃ y, y = fb[x.toNat]'hxl := ⟨_, rfl⟩
      rw [← hy] at hc HT
      clear hfl hxl hy hbn
      obtain ⟨j0, j1, j2⟩ := K6.out
      go_wp2_with fail
      go_still_tail 10, (by kernel_rfl)
      change wpList _ _ _ _ _ wr.drew
      go_wp2
      go_roundw
      case rel => exact ⟨k + 1, by omega, by go_num, by rw [HS.out]; exact own_drew HT.out.1, World.grownBy.trans' HT.out.2 grown_drew⟩
      case measure => simp [intOf]; omega
    · have hkm : k = m := by omega
      subst hkm
      have HE : Hid (flips bs (xs.take k) = flips bs xs) := Lib.hid (by rw [List.take_of_length_le (by rw [Hm.out]; omega)])
      obtain ⟨j0, j1, j2⟩ := K6.out
      obtain ⟨⟨x0, x1, x2⟩, y0, y1, y2⟩ := X6.out
      have hsz := HG.out.size
      have hB := B5.out
      go_wp2
      refine bodyPost_ret (v := .tuple #[.agg #[.int .i64 wd, .int .i64 hg, .slice (some ⟨g, 0, none⟩) bs.length cp], .bool true]) (by simp [results, Try.results56, go_sem, x0, x1, x2]) rfl ⟨⟨some ⟨g, 0, none⟩, cp, by rw [flips_len], ?_⟩, ?_⟩
      · rw [flips_len, ← HE.out]
        exact own_set (own_set (own_set (own_base HO.out B0.out.size) (by rintro a ⟨⟩; simp; omega) _) (by rintro a ⟨⟩; simp; omega) _) (by rintro a ⟨⟩; simp; omega) _
      · exact (((B0.out.trans ((hB.grown HG.out hB.size (fun j hj => by injection hj; omega)).mono B0.out.size)).setCell (by simp) _).setCell (by simp) _).setCell (by simp) _

set_option maxHeartbeats 2000000 in
set_option maxRecDepth 100000 in
theorem flipCells_no (wd hg : Int) (A A' : Option Addr) (n c m c' : Nat) (xs : List Int) (w : World) (hn : n ≤ 1048576) (hm : xs.length = m) (hm1 : m ≤ 1048576) (hr' : Rd w w.heap.size A' (xs.map (Value.int .i64)))
    (ho : vF wd hg n = false ∨ (vF wd hg n = true ∧ incI xs = false) ∨ (vF wd hg n = true ∧ incI xs = true ∧ rngI 0 ((n : Int) - 1) xs = false)) :
    Calls Try.prog 56 #[.agg #[.int .i64 wd, .int .i64 hg, .slice A n c], .slice A' m c'] w fun e w' => GivesFB w.heap.size 0 0 [] false e w' ∧ Below w.heap.size w w' := by
  have C22 := fun W => validField_any wd hg A n c W (by omega)
  have C99 := fun W hr => isIncreasing_any A' m c' xs W hm (by omega) hr
  have C100 := fun W hr => areWithin_any A' m c' xs 0 ((n : Int) - 1) W hm (by omega) hr
  have Hr' := Lib.hid hr'
  obtain ⟨W0, hW0⟩ : ∃ W0, W0 = (w.alloc (.cells #[.int .i64 wd, .int .i64 hg, .slice A n c] 27)).alloc (.cells #[.int .i64 0, .int .i64 0, .slice none 0 0] 27) := ⟨_, rfl⟩
  have B0 : Hid (Below w.heap.size w W0) := Lib.hid (by rw [hW0]; exact bthen (below_new w _) (below_new _ _))
  have z0 : W0.heap.size = w.heap.size + 2 := by rw [hW0]; simp
  have K0 : FBox W0 w.heap.size wd hg (.slice A n c) := by rw [hW0]; exact ⟨by simp [go_sem], by simp [go_sem], by simp [go_sem]⟩
  have X0 : Hid (Open3 W0 (w.heap.size + 1)) := Lib.hid (by rw [hW0]; simpa using Open3.new (w.alloc (.cells #[.int .i64 wd, .int .i64 hg, .slice A n c] 27)))
  have R0' := Lib.hid ((Hr'.out.below B0.out).more B0.out.size)
  have Z0 := Lib.hid z0
  have hz0 : w.heap.size + 1 < W0.heap.size := by rw [Z0.out]; omega
  have K0 := Lib.hid K0
  have hwr : IntKind.i64.wrap ((n : Int) - 1) = (n : Int) - 1 := by rw [IntKind.wrap_i64]; omega
  have HWR := Lib.hid hwr
  clear hr' hm z0 hwr
  rcases ho with hv | ⟨hv, hi⟩ | ⟨hv, hi, hq⟩
  · rw [hv] at C22
    have H22 := Lib.hid C22
    clear C22 C99 C100 hv
    go_enter Try.func56, Try.ntmps56
    go_wp2_with fail
    rw [← hW0]
    clear hW0
    obtain ⟨k0, k1, k2⟩ := K0.out
    refine (H22.out _).mono ?_
    rintro e w1 ⟨rfl, hb1⟩
    have B1 := Lib.hid hb1
    clear hb1 k0 k1 k2
    obtain ⟨⟨x0, x1, x2⟩, y0, y1, y2⟩ := X0.out.below B1.out hz0
    go_wp2
    refine bodyPost_ret (v := .tuple #[.agg #[.int .i64 0, .int .i64 0, .slice none 0 0], .bool false]) (by simp [results, Try.results56, go_sem, x0, x1, x2]) rfl ⟨⟨none, 0, rfl, World.ownsRow_nil _ _ _ _⟩, ?_⟩
    exact ((((B0.out.trans (B1.out.mono B0.out.size)).setCell (by simp) _).setCell (by simp) _).setCell (by simp) _)
  · rw [hv] at C22
    rw [hi] at C99
    have H22 := Lib.hid C22; have H99 := Lib.hid C99
    clear C22 C99 C100 hv hi
    go_enter Try.func56, Try.ntmps56
    go_wp2_with fail
    rw [← hW0]
    clear hW0
    obtain ⟨k0, k1, k2⟩ := K0.out
    refine (H22.out _).mono ?_
    rintro e w1 ⟨rfl, hb1⟩
    have B1 := Lib.hid hb1
    clear hb1 k0 k1 k2
    obtain ⟨k0, k1, k2⟩ := K0.out.below B1.out (by omega)
    go_wp2_with fail
    refine (H99.out _ ((R0'.out.below B1.out).more B1.out.size)).mono ?_
    rintro e w2 ⟨rfl, m2, rfl⟩
    have B2 := Lib.hid (below_drewN B1.out m2)
    obtain ⟨⟨x0, x1, x2⟩, y0, y1, y2⟩ := X0.out.below B1.out hz0
    clear B1 k0 k1 k2
    go_wp2
    refine bodyPost_ret (v := .tuple #[.agg #[.int .i64 0, .int .i64 0, .slice none 0 0], .bool false]) (by simp [results, Try.results56, go_sem, x0, x1, x2]) rfl ⟨⟨none, 0, rfl, World.ownsRow_nil _ _ _ _⟩, ?_⟩
    exact ((((B0.out.trans (B2.out.mono B0.out.size)).setCell (by simp) _).setCell (by simp) _).setCell (by simp) _)
  · rw [hv] at C22
    rw [hi] at C99
    rw [hq] at C100
    have H22 := Lib.hid C22; have H99 := Lib.hid C99; have H100 := Lib.hid C100
    clear C22 C99 C100 hv hi hq
    go_enter Try.func56, Try.ntmps56
    go_wp2_with fail
    rw [← hW0]
    clear hW0
    obtain ⟨k0, k1, k2⟩ := K0.out
    refine (H22.out _).mono ?_
    rintro e w1 ⟨rfl, hb1⟩
    have B1 := Lib.hid hb1
    clear hb1 k0 k1 k2
    obtain ⟨k0, k1, k2⟩ := K0.out.below B1.out (by omega)
    go_wp2_with fail
    refine (H99.out _ ((R0'.out.below B1.out).more B1.out.size)).mono ?_
    rintro e w2 ⟨rfl, m2, rfl⟩
    have B2 := Lib.hid (below_drewN B1.out m2)
    clear B1
    have hwr := HWR.out
    go_wp2_with fail
    refine (H100.out _ ((R0'.out.below B2.out).more B2.out.size)).mono ?_
    rintro e w3 ⟨rfl, hb3⟩
    have B3 := Lib.hid (bthen B2.out hb3)
    clear hb3 B2 k0 k1 k2 hwr
    obtain ⟨⟨x0, x1, x2⟩, y0, y1, y2⟩ := X0.out.below B3.out hz0
    go_wp2
    refine bodyPost_ret (v := .tuple #[.agg #[.int .i64 0, .int .i64 0, .slice none 0 0], .bool false]) (by simp [results, Try.results56, go_sem, x0, x1, x2]) rfl ⟨⟨none, 0, rfl, World.ownsRow_nil _ _ _ _⟩, ?_⟩
    exact ((((B0.out.trans (B3.out.mono B0.out.size)).setCell (by simp) _).setCell (by simp) _).setCell (by simp) _)

/-- what FlipCells gives -/
def pI (b : Bool) (z : Int) : Int := bif b then z else 0
def pL (b : Bool) (l : List Bool) : List Bool := bif b then l else []
def listOk (n : Nat) (xs : List Int) : Bool := incI xs && rngI 0 ((n : Int) - 1) xs
/-- all is well with the first k numbers -/
def OkTo (n : Nat) (xs : List Int) (k : Nat) : Prop := IncTo xs k ∧ ∀ j, j < k → 0 ≤ xs.getD j 0 ∧ xs.getD j 0 < n
theorem ok_zero (n : Nat) (xs : List Int) : OkTo n xs 0 := ⟨inc_zero xs, fun j hj => by omega⟩
theorem ok_one {n : Nat} {xs : List Int} (hk : 0 < xs.length) (h1 : 0 ≤ xs[0]) (h2 : xs[0] < n) : OkTo n xs 1 :=
  ⟨inc_one xs, fun j hj => by obtain rfl : j = 0 := by omega
                              rw [getD_at hk]; exact ⟨h1, h2⟩⟩
theorem ok_step {n : Nat} {xs : List Int} {k : Nat} (h : OkTo n xs k) (hk : k < xs.length) (h1 : 0 ≤ xs[k]) (h2 : xs[k] < n) (h3 : 0 < k → xs.getD (k - 1) 0 < xs[k]) : OkTo n xs (k + 1) := by
  refine ⟨?_, ?_⟩
  · intro j hj
    by_cases e : j + 1 = k
    · subst e
      rw [getD_at hk]
      exact h3 (by omega)
    · exact h.1 j (by omega)
  · intro j hj
    by_cases e : j = k
    · subst e; rw [getD_at hk]; exact ⟨h1, h2⟩
    · exact h.2 j (by omega)
theorem ok_all {n : Nat} {xs : List Int} {k : Nat} (h : OkTo n xs k) (hk : xs.length ≤ k) : listOk n xs = true := by
  unfold listOk
  rw [Bool.and_eq_true]
  refine ⟨inc_good hk h.1, ?_⟩
  unfold rngI
  simp only [Bool.not_eq_true', List.any_eq_false]
  intro x hx
  obtain ⟨j, hj, rfl⟩ := List.getElem_of_mem hx
  have := h.2 j (by omega)
  rw [getD_at hj] at this
  simp [inB]; omega
theorem ok_out {n : Nat} {xs : List Int} {k : Nat} (hk : k < xs.length) (h : ¬ (0 ≤ xs[k] ∧ xs[k] < n)) : listOk n xs = false := by
  unfold listOk
  rw [Bool.and_eq_false_iff]
  right
  rw [← Bool.not_eq_true]
  intro hq
  exact h (rng_at hq hk)
theorem ok_low {n : Nat} {xs : List Int} {k : Nat} (hk : k < xs.length) (h0 : 0 < k) (h : ¬ xs.getD (k - 1) 0 < xs[k]) : listOk n xs = false := by
  unfold listOk
  rw [Bool.and_eq_false_iff]
  left
  rw [← Bool.not_eq_true, incI_iff]
  intro hi
  have := hi (k - 1) (by omega)
  rw [show k - 1 + 1 = k from by omega, getD_at hk] at this
  exact h this
theorem flipCells_any (wd hg : Int) (A A' : Option Addr) (n c m c' : Nat) (bs : List Bool) (xs : List Int) (w : World) (hn : bs.length = n) (hn1 : n ≤ 1048576) (hm : xs.length = m) (hm1 : m ≤ 1048576) (hr : Rd w w.heap.size A (bs.map Value.bool)) (hr' : Rd w w.heap.size A' (xs.map (Value.int .i64))) :
    Calls Try.prog 56 #[.agg #[.int .i64 wd, .int .i64 hg, .slice A n c], .slice A' m c'] w fun e w' => GivesFB w.heap.size (pI (vF wd hg n && listOk n xs) wd) (pI (vF wd hg n && listOk n xs) hg) (pL (vF wd hg n && listOk n xs) (flips bs xs)) (vF wd hg n && listOk n xs) e w' ∧ Below w.heap.size w w' := by
  cases hv : vF wd hg n
  · exact flipCells_no wd hg A A' n c m c' xs w hn1 hm hm1 hr' (.inl hv)
  · cases hi : incI xs
    · rw [show (true && listOk n xs) = false from by simp [listOk, hi]]
      exact flipCells_no wd hg A A' n c m c' xs w hn1 hm hm1 hr' (.inr (.inl ⟨hv, hi⟩))
    · cases hq : rngI 0 ((n : Int) - 1) xs
      · rw [show (true && listOk n xs) = false from by simp [listOk, hq]]
        exact flipCells_no wd hg A A' n c m c' xs w hn1 hm hm1 hr' (.inr (.inr ⟨hv, hi, hq⟩))
      · rw [show (true && listOk n xs) = true from by simp [listOk, hi, hq]]
        exact flipCells_yes wd hg A A' n c m c' bs xs w hn hm hm1 hr hr' hv hi hq
end Go.Proofs.Ytbefcfdmaafghaa
