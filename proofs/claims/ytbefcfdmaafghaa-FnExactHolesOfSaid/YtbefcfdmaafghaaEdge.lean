/- EdgeOfField, both ways: how long the edge of the full cells is. -/
import Derived.Test.YtbefcfdmaafghaaBeside
import Derived.Test.YtbefcfdmaafghaaCount
namespace Go.Proofs.Ytbefcfdmaafghaa
open Go.RowKit
/-- is cell x full -/
def full (bs : List Bool) (x : Int) : Bool := (bs[x.toNat]?).getD false
/-- how many cells of a list are full -/
def fc (bs : List Bool) : List Int → Nat
  | [] => 0
  | x :: r => (if full bs x then 1 else 0) + fc bs r
theorem fc_append (bs : List Bool) (x y : List Int) : fc bs (x ++ y) = fc bs x + fc bs y := by
  induction x with
  | nil => simp [fc]
  | cons b r ih => simp only [List.cons_append, fc, ih]; omega
theorem fc_le (bs : List Bool) (l : List Int) : fc bs l ≤ l.length := by
  induction l with
  | nil => simp [fc]
  | cons b r ih => simp only [fc, List.length_cons]; split <;> omega
theorem fc_snoc {bs : List Bool} {l : List Int} {k : Nat} (h : k < l.length) : fc bs (l.take (k + 1)) = fc bs (l.take k) + if full bs l[k] then 1 else 0 := by
  rw [List.take_succ_eq_append_getElem h, fc_append]
  simp [fc]
def edgeTo (wd hg : Int) (bs : List Bool) : Nat → Int
  | 0 => 0
  | k + 1 => edgeTo wd hg bs k + if full bs k then 4 - (fc bs (nb wd hg k) : Int) else 0
def edgeR (wd hg : Int) (bs : List Bool) : Int := if vF wd hg bs.length = true then edgeTo wd hg bs bs.length else 0
theorem edgeTo_bd (wd hg : Int) (bs : List Bool) (k : Nat) : 0 ≤ edgeTo wd hg bs k ∧ edgeTo wd hg bs k ≤ 4 * k := by
  induction k with
  | zero => simp [edgeTo]
  | succ k ih =>
    have h1 := fc_le bs (nb wd hg k)
    have h2 := nb_le wd hg k
    simp only [edgeTo]
    split <;> omega
theorem full_get {bs : List Bool} {x : Int} {n : Nat} (hn : bs.length = n) (h0 : 0 ≤ x) (h1 : x < n) : ∃ h : x.toNat < bs.length, full bs x = bs[x.toNat]'h := by
  have h : x.toNat < bs.length := by omega
  exact ⟨h, by unfold full; rw [List.getElem?_eq_getElem h]; rfl⟩
theorem nb_mem {wd hg i : Int} (h1 : 1 ≤ wd) (h5 : 0 ≤ i) (h6 : i < wd * hg) : ∀ x ∈ nb wd hg i, 0 ≤ x ∧ x < wd * hg := by
  have r1 : 0 ≤ i % wd := Int.emod_nonneg _ (by omega)
  have r2 : i % wd < wd := Int.emod_lt_of_pos _ (by omega)
  have e := Int.mul_ediv_add_emod i wd
  have r3 : i / wd < hg := by
    have : wd * (i / wd) < wd * hg := by omega
    exact Int.lt_of_mul_lt_mul_left this (by omega)
  have r4 : wd * (i / wd + 1) ≤ wd * hg := Int.mul_le_mul_of_nonneg_left (by omega) (by omega)
  rw [Int.mul_add, Int.mul_one] at r4
  have r5 : 0 ≤ wd * (i / wd) := Int.mul_nonneg (by omega) (Int.ediv_nonneg h5 (by omega))
  intro x hx
  unfold nb nb3 nb2 nb1 at hx
  simp only [List.mem_append] at hx
  rcases hx with ((hx | hx) | hx) | hx
  all_goals
    split at hx
    · simp at hx; omega
    · simp at hx

set_option maxHeartbeats 400000 in
theorem sides_any (wd hg i : Int) (A : Option Addr) (n c : Nat) (w : World) (h1 : 1 ≤ wd) (h2 : wd ≤ 16) (h3 : 1 ≤ hg) (h4 : hg ≤ 16) (h5 : 0 ≤ i) (h6 : i < wd * hg) :
    Calls Try.prog 92 #[.agg #[.int .i64 wd, .int .i64 hg, .slice A n c], .int .i64 i] w fun e w' => (∃ v, e = .returned v ∧ w'.ownsRow w.heap.size 2 1 v (nb wd hg i).length ((nb wd hg i).map (Value.int .i64))) ∧ Below w.heap.size w w' := by
  have C := neighbours_any wd hg i (w.alloc (.cells #[.int .i64 wd, .int .i64 hg, .slice A n c] 27)) h1 h2 h3 h4 h5 h6
  have HC := Lib.hid C; clear C
  go_enter Try.func92, Try.ntmps92
  go_wp2_with fail
  refine HC.out.mono ?_
  rintro e w1 ⟨⟨v, rfl, ho⟩, hb⟩
  have HO := Lib.hid (own_base ho (by simp) : w1.ownsRow w.heap.size 2 1 v _ _)
  have HB := Lib.hid (bthen (below_new w _) hb)
  clear ho hb
  go_wp2
  go_ret
  exact ⟨⟨_, rfl, HO.out⟩, HB.out⟩

/-- an owned row of ints reads as the ints -/
theorem own_shape {w : World} {B : Nat} {e : TypeId} {v : Value} {n : Nat} {xs : List Value} (h : w.ownsRow B e 1 v n xs) : ∃ A c, v = .slice A n c ∧ Rd w w.heap.size A xs := by
  have h0 := h
  rcases h.2 with ⟨rfl, rfl⟩ | ⟨g, cap, cur, rfl, _⟩
  · exact ⟨none, 0, rfl, Rd.own h0⟩
  · exact ⟨_, cap, rfl, Rd.own h0⟩

set_option maxHeartbeats 4000000 in
set_option maxRecDepth 100000 in
theorem edgeOfField_any (wd hg : Int) (A : Option Addr) (n c : Nat) (bs : List Bool) (w : World) (hn : bs.length = n) (hc : n ≤ 140737488351232) (hr : Rd w w.heap.size A (bs.map Value.bool)) :
    Calls Try.prog 44 #[.agg #[.int .i64 wd, .int .i64 hg, .slice A n c]] w fun e w' => e = .returned (.tuple #[.int .i64 (edgeR wd hg bs), .bool (vF wd hg bs.length)]) ∧ Below w.heap.size w w' := by
  subst hn
  have Hr := Lib.hid hr; clear hr
  by_cases hv : vF wd hg bs.length = true
  · have hX : edgeR wd hg bs = edgeTo wd hg bs bs.length := by simp [edgeR, hv]
    have HX := Lib.hid hX; clear hX
    obtain ⟨⟨⟨h1, h2⟩, h3, h4⟩, h5⟩ := vF_iff.1 hv
    obtain ⟨q1, q2⟩ := prod_bd h1 h2 h3 h4
    have H5 := Lib.hid h5; clear h5
    have h256 : bs.length ≤ 256 := by have := H5.out; omega
    go_enter Try.func44, Try.ntmps44
    go_wp2_with fail
    refine (validField_any wd hg A _ c _ hc).mono ?_
    rintro e w1 ⟨rfl, hb1⟩
    have B1 := Lib.hid (bthen (below_new w _) hb1)
    have K1 := Lib.hid ((FBox.new w 27 wd hg (.slice A bs.length c)).below hb1 (by simp))
    have z1 : w.heap.size < w1.heap.size := by have := hb1.size; simp at this; omega
    clear hb1
    obtain ⟨k0, k1, k2⟩ := K1.out
    go_wp2_with fail
    clear k0 k1 k2
    go_loopw [4, 15] (fun s i wr => ∃ k : Nat, k ≤ bs.length ∧ i = .int .i64 k ∧ s = .int .i64 (edgeTo wd hg bs k) ∧ FBox wr w.heap.size wd hg (.slice A bs.length c) ∧ w.heap.size < wr.heap.size ∧ Below w.heap.size w wr) (fun _ i _ => bs.length - (intOf i).toNat)
    case atStart => exact ⟨0, Nat.zero_le _, rfl, rfl, K1.out, z1, B1.out⟩
    case round =>
      obtain ⟨k, hk, rfl, rfl, hx, hz, hb⟩ := hrel
      obtain ⟨e1, e2⟩ := edgeTo_bd wd hg bs k
      have KX := Lib.hid hx
      obtain ⟨k0, k1, k2⟩ := hx
      have HB := Lib.hid hb; clear hb K1 B1 z1
      have R1 := Lib.hid ((Hr.out.below HB.out).more HB.out.size)
      by_cases hlt : k < bs.length
      · obtain ⟨ad, rfl, _, hx⟩ := R1.out.at_ (k := k) (by simpa using hlt)
        rw [List.getElem_map] at hx
        have hf : full bs (k : Int) = bs[k] := by unfold full; simp [List.getElem?_eq_getElem hlt]
        cases hbk : bs[k]
        · rw [hbk] at hx hf
          have HS : Hid (edgeTo wd hg bs (k + 1) = edgeTo wd hg bs k) := by show edgeTo wd hg bs (k + 1) = _; simp [edgeTo, hf]
          clear hbk hf
          go_wp2
          go_roundw
          case rel => exact ⟨k + 1, by omega, by go_num, by rw [HS.out], KX.out, hz, HB.out⟩
          case measure => simp [intOf]; omega
        · rw [hbk] at hx hf
          have hki : (k : Int) < wd * hg := by have := H5.out; omega
          have HS : Hid (edgeTo wd hg bs (k + 1) = edgeTo wd hg bs k + (4 - (fc bs (nb wd hg k) : Int))) := by show edgeTo wd hg bs (k + 1) = _; simp [edgeTo, hf]
          clear hbk hf
          go_wp2_with fail
          refine (sides_any wd hg k _ _ c wr h1 h2 h3 h4 (by omega) hki).mono ?_
          rintro e w2 ⟨⟨v, rfl, ho⟩, hb2⟩
          obtain ⟨A2, c2, rfl, hr2⟩ := own_shape ho
          have R2 := Lib.hid hr2
          have B2 := Lib.hid (HB.out.trans (hb2.mono (by omega)))
          have X2 := Lib.hid (KX.out.below hb2 hz)
          have z2 : w.heap.size < w2.heap.size := by have := hb2.size; omega
          have RR := Lib.hid (R1.out.next hb2)
          have hl4 := nb_le wd hg k
          have HM := Lib.hid (nb_mem h1 (show (0 : Int) ≤ (k : Int) by omega) hki)
          clear ho hr2 hb2 k0 k1 k2 hx
          obtain ⟨k0, k1, k2⟩ := X2.out
          go_wp2_with fail
          go_loop [4, 28] (fun s i => ∃ j : Nat, j ≤ (nb wd hg k).length ∧ i = .int .i64 j ∧ s = .int .i64 (edgeTo wd hg bs k + (4 - (fc bs ((nb wd hg k).take j) : Int)))) (fun _ i => (nb wd hg k).length - (intOf i).toNat)
          case atStart => exact ⟨0, Nat.zero_le _, rfl, by simp [fc]⟩
          case round =>
            obtain ⟨j, hj, rfl, rfl⟩ := hrel
            have hfl := fc_le bs ((nb wd hg k).take j)
            rw [List.length_take] at hfl
            by_cases hjl : j < (nb wd hg k).length
            · obtain ⟨ad2, rfl, _, hy⟩ := R2.out.at_ (k := j) (by simpa using hjl)
              rw [List.getElem_map] at hy
              have HS2 := Lib.hid (fc_snoc (bs := bs) hjl)
              obtain ⟨m1, m2⟩ := HM.out _ (List.getElem_mem hjl)
              obtain ⟨x, hxe⟩ : ∃ x, x = (nb wd hg k)[j] := ⟨_, rfl⟩
              rw [← hxe] at hy m1 m2 HS2
              have hxn : x < (bs.length : Int) := by have := H5.out; omega
              obtain ⟨hxl, hxf⟩ := full_get (bs := bs) rfl m1 hxn
              obtain ⟨ad3, hade, _, hz3⟩ := RR.out.at_ (k := x.toNat) (by simpa using hxl)
              obtain rfl : ad3 = ad := (Option.some.inj hade).symm
              rw [List.getElem_map, ← hxf] at hz3
              clear hxe hxf hade
              cases hbx : full bs x
              · rw [hbx] at hz3 HS2
                clear hbx
                go_wp2
                go_round
                case rel => exact ⟨j + 1, by omega, by go_num, by rw [HS2.out]; simp⟩
                case measure => simp [intOf]; omega
              · rw [hbx] at hz3 HS2
                clear hbx
                go_wp2
                go_round
                case rel => exact ⟨j + 1, by omega, by go_num, by rw [HS2.out]; simp; omega⟩
                case measure => simp [intOf]; omega
            · have HT : Hid (fc bs ((nb wd hg k).take j) = fc bs (nb wd hg k)) := by show fc _ _ = _; rw [List.take_of_length_le (by omega)]
              go_wp2
              go_roundw
              case rel => exact ⟨k + 1, by omega, by go_num, by rw [HS.out, HT.out], X2.out, z2, B2.out⟩
              case measure => simp [intOf]; omega
      · have hke : k = bs.length := by omega
        have HK : Hid (edgeTo wd hg bs k = edgeTo wd hg bs bs.length) := by show _ = _; rw [hke]
        clear hke
        go_wp2
        go_ret2
        exact ⟨ret_ib (by rw [HX.out, HK.out]) (by first | rfl | exact hv.symm), HB.out⟩
  · have hv0 : vF wd hg bs.length = false := by simpa using hv
    have hX : edgeR wd hg bs = 0 := by simp [edgeR, hv0]
    have HX := Lib.hid hX; clear hX hv
    go_enter Try.func44, Try.ntmps44
    go_wp2_with fail
    refine (validField_any wd hg A _ c _ hc).mono ?_
    rintro e w1 ⟨rfl, hb1⟩
    have B1 := Lib.hid (bthen (below_new w _) hb1); clear hb1
    go_wp2
    go_ret2
    exact ⟨ret_ib HX.out.symm (by first | rfl | exact hv0.symm), B1.out⟩
set_option maxHeartbeats 4000000 in
set_option maxRecDepth 100000 in
theorem specEdgeOfField_any (wd hg : Int) (A : Option Addr) (n c : Nat) (bs : List Bool) (w : World) (hn : bs.length = n) (hc : n ≤ 140737488351232) (hr : Rd w w.heap.size A (bs.map Value.bool)) :
    Calls Try.prog 43 #[.agg #[.int .i64 wd, .int .i64 hg, .slice A n c]] w fun e w' => e = .returned (.tuple #[.int .i64 (edgeR wd hg bs), .bool (vF wd hg bs.length)]) ∧ Below w.heap.size w w' := by
  subst hn
  have Hr := Lib.hid hr; clear hr
  by_cases hv : vF wd hg bs.length = true
  · have hX : edgeR wd hg bs = edgeTo wd hg bs bs.length := by simp [edgeR, hv]
    have HX := Lib.hid hX; clear hX
    obtain ⟨⟨⟨h1, h2⟩, h3, h4⟩, h5⟩ := vF_iff.1 hv
    obtain ⟨q1, q2⟩ := prod_bd h1 h2 h3 h4
    have H5 := Lib.hid h5; clear h5
    have h256 : bs.length ≤ 256 := by have := H5.out; omega
    go_enter Try.func43, Try.ntmps43
    go_wp2_with fail
    refine (l07Is_any wd hg A _ c w.heap.size _ hc (FBox.new w 27 wd hg (.slice A bs.length c))).mono ?_
    rintro e w0 ⟨rfl, m, rfl⟩
    obtain ⟨w1, hw1⟩ : ∃ x, x = (w.alloc (.cells #[.int .i64 wd, .int .i64 hg, .slice A bs.length c] 27)).drewN m := ⟨_, rfl⟩
    have hb1 : Below (w.alloc (.cells #[.int .i64 wd, .int .i64 hg, .slice A bs.length c] 27)).heap.size (w.alloc (.cells #[.int .i64 wd, .int .i64 hg, .slice A bs.length c] 27)) w1 := by rw [hw1]; exact below_drewN (Below.refl _ _) _
    rw [← hw1]
    clear hw1
    have B1 := Lib.hid (bthen (below_new w _) hb1)
    have K1 := Lib.hid ((FBox.new w 27 wd hg (.slice A bs.length c)).below hb1 (by simp))
    have z1 : w.heap.size < w1.heap.size := by have := hb1.size; simp at this; omega
    clear hb1
    obtain ⟨k0, k1, k2⟩ := K1.out
    go_wp2_with fail
    clear k0 k1 k2
    go_loopw [4, 13] (fun s i wr => ∃ k : Nat, k ≤ bs.length ∧ i = .int .i64 k ∧ s = .int .i64 (edgeTo wd hg bs k) ∧ FBox wr w.heap.size wd hg (.slice A bs.length c) ∧ w.heap.size < wr.heap.size ∧ Below w.heap.size w wr) (fun _ i _ => bs.length - (intOf i).toNat)
    case atStart => exact ⟨0, Nat.zero_le _, rfl, rfl, K1.out, z1, B1.out⟩
    case round =>
      obtain ⟨k, hk, rfl, rfl, hx, hz, hb⟩ := hrel
      obtain ⟨e1, e2⟩ := edgeTo_bd wd hg bs k
      have KX := Lib.hid hx
      obtain ⟨k0, k1, k2⟩ := hx
      have HB := Lib.hid hb; clear hb K1 B1 z1
      have R1 := Lib.hid ((Hr.out.below HB.out).more HB.out.size)
      by_cases hlt : k < bs.length
      · obtain ⟨ad, rfl, _, hx⟩ := R1.out.at_ (k := k) (by simpa using hlt)
        rw [List.getElem_map] at hx
        have hf : full bs (k : Int) = bs[k] := by unfold full; simp [List.getElem?_eq_getElem hlt]
        cases hbk : bs[k]
        · rw [hbk] at hx hf
          have HS : Hid (edgeTo wd hg bs (k + 1) = edgeTo wd hg bs k) := by show edgeTo wd hg bs (k + 1) = _; simp [edgeTo, hf]
          clear hbk hf
          go_wp2
          go_roundw
          case rel => exact ⟨k + 1, by omega, by go_num, by rw [HS.out], KX.out, hz, HB.out⟩
          case measure => simp [intOf]; omega
        · rw [hbk] at hx hf
          have hki : (k : Int) < wd * hg := by have := H5.out; omega
          have HS : Hid (edgeTo wd hg bs (k + 1) = edgeTo wd hg bs k + (4 - (fc bs (nb wd hg k) : Int))) := by show edgeTo wd hg bs (k + 1) = _; simp [edgeTo, hf]
          clear hbk hf
          go_wp2_with fail
          refine (l07Beside_any wd hg k wr h1 h2 h3 h4 (by omega) hki).mono ?_
          rintro e w2 ⟨⟨v, rfl, ho⟩, hb2⟩
          obtain ⟨A2, c2, rfl, hr2⟩ := own_shape ho
          have R2 := Lib.hid hr2
          have B2 := Lib.hid (HB.out.trans (hb2.mono (by omega)))
          have X2 := Lib.hid (KX.out.below hb2 hz)
          have z2 : w.heap.size < w2.heap.size := by have := hb2.size; omega
          have RR := Lib.hid (R1.out.next hb2)
          have hl4 := nb_le wd hg k
          have HM := Lib.hid (nb_mem h1 (show (0 : Int) ≤ (k : Int) by omega) hki)
          clear ho hr2 hb2 k0 k1 k2 hx
          obtain ⟨k0, k1, k2⟩ := X2.out
          go_wp2_with fail
          go_loopw [4, 32] (fun s i wx => ∃ j : Nat, j ≤ (nb wd hg k).length ∧ i = .int .i64 j ∧ s = .int .i64 (edgeTo wd hg bs k + (4 - (fc bs ((nb wd hg k).take j) : Int))) ∧ ∃ q, wx = w2.drewN q) (fun _ i _ => (nb wd hg k).length - (intOf i).toNat)
          case atStart => exact ⟨0, Nat.zero_le _, rfl, by simp [fc], 0, rfl⟩
          case round =>
            obtain ⟨j, hj, rfl, rfl, q, rfl⟩ := hrel
            have hfl := fc_le bs ((nb wd hg k).take j)
            rw [List.length_take] at hfl
            by_cases hjl : j < (nb wd hg k).length
            · obtain ⟨ad2, rfl, _, hy⟩ := R2.out.at_ (k := j) (by simpa using hjl)
              rw [List.getElem_map] at hy
              have HS2 := Lib.hid (fc_snoc (bs := bs) hjl)
              obtain ⟨m1, m2⟩ := HM.out _ (List.getElem_mem hjl)
              obtain ⟨x, hxe⟩ : ∃ x, x = (nb wd hg k)[j] := ⟨_, rfl⟩
              rw [← hxe] at hy m1 m2 HS2
              have hxn : x < (bs.length : Int) := by have := H5.out; omega
              obtain ⟨hxl, hxf⟩ := full_get (bs := bs) rfl m1 hxn
              obtain ⟨ad3, hade, _, hz3⟩ := RR.out.at_ (k := x.toNat) (by simpa using hxl)
              obtain rfl : ad3 = ad := (Option.some.inj hade).symm
              rw [List.getElem_map, ← hxf] at hz3
              clear hxe hxf hade
              cases hbx : full bs x
              · rw [hbx] at hz3 HS2
                clear hbx
                go_wp2
                go_quiet (fail)
                go_wp2
                go_roundw
                case rel => exact ⟨j + 1, by omega, by go_num, by rw [HS2.out]; simp, _, rfl⟩
                case measure => simp [intOf]; omega
              · rw [hbx] at hz3 HS2
                clear hbx
                go_wp2
                go_quiet (fail)
                go_wp2
                go_roundw
                case rel => exact ⟨j + 1, by omega, by go_num, by rw [HS2.out]; simp; omega, _, rfl⟩
                case measure => simp [intOf]; omega
            · have HT : Hid (fc bs ((nb wd hg k).take j) = fc bs (nb wd hg k)) := by show fc _ _ = _; rw [List.take_of_length_le (by omega)]
              go_wp2
              go_roundw
              case rel => exact ⟨k + 1, by omega, by go_num, by rw [HS.out, HT.out], X2.out, z2, below_drewN B2.out _⟩
              case measure => simp [intOf]; omega
      · have hke : k = bs.length := by omega
        have HK : Hid (edgeTo wd hg bs k = edgeTo wd hg bs bs.length) := by show _ = _; rw [hke]
        clear hke
        go_wp2
        go_ret2
        exact ⟨ret_ib (by rw [HX.out, HK.out]) (by first | rfl | exact hv.symm), HB.out⟩
  · have hv0 : vF wd hg bs.length = false := by simpa using hv
    have hX : edgeR wd hg bs = 0 := by simp [edgeR, hv0]
    have HX := Lib.hid hX; clear hX hv
    go_enter Try.func43, Try.ntmps43
    go_wp2_with fail
    refine (l07Is_any wd hg A _ c w.heap.size _ hc (FBox.new w 27 wd hg (.slice A bs.length c))).mono ?_
    rintro e w1 ⟨rfl, m, rfl⟩
    have B1 := Lib.hid (below_drewN (below_new w (.cells #[.int .i64 wd, .int .i64 hg, .slice A bs.length c] 27)) m)
    go_wp2
    go_ret2
    exact ⟨ret_ib HX.out.symm (by first | rfl | exact hv0.symm), B1.out⟩
end Go.Proofs.Ytbefcfdmaafghaa
