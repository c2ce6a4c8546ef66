/- Whether a side of a cell is full, both ways. -/
import Derived.Test.YtbefcfdmaafghaaEdge
import Derived.Test.YtbefcfdmaafghaaPred
import Derived.StillTailTactics
namespace Go.Proofs.Ytbefcfdmaafghaa
open Go.RowKit
/-- a side of cell i is full -/
def touchB (wd hg : Int) (bs : List Bool) (i : Int) : Bool := (nb wd hg i).any (full bs)
set_option maxHeartbeats 1000000 in
theorem touchFn_any (x wd hg : Int) (b : Nat) (A : Option Addr) (n c : Nat) (bs : List Bool) (W : World) (hx : FBox W b wd hg (.slice A n c)) (hn : bs.length = n) (hr : Rd W W.heap.size A (bs.map Value.bool)) (h0 : 0 ≤ x) (h1 : x < n) :
    Calls Try.prog 130 #[.int .i64 x, .pointer (some ⟨b, 0, none⟩)] W fun e w' => e = .returned (.bool (full bs x)) ∧ Below W.heap.size W w' := by
  obtain ⟨k0, k1, k2⟩ := hx
  obtain ⟨hxl, hxf⟩ := full_get (bs := bs) hn h0 h1
  obtain ⟨ad, rfl, _, hz⟩ := hr.at_ (k := x.toNat) (by simpa using hxl)
  rw [List.getElem_map, ← hxf] at hz
  clear hxf hxl hr hn
  go_enter Try.func130, Try.ntmps130
  go_wp2
  go_ret
  exact ⟨rfl, Below.refl _ _⟩
theorem any_mem {α : Type} {l : List α} {p q : α → Bool} (h : ∀ x ∈ l, p x = q x) : l.any p = l.any q := by
  induction l with
  | nil => rfl
  | cons a r ih => rw [List.any_cons, List.any_cons, h a List.mem_cons_self, ih fun x hx => h x (List.mem_cons_of_mem _ hx)]
set_option maxHeartbeats 1000000 in
theorem touches_any (wd hg i : Int) (A : Option Addr) (n c : Nat) (bs : List Bool) (w : World) (hn : bs.length = n) (h1 : 1 ≤ wd) (h2 : wd ≤ 16) (h3 : 1 ≤ hg) (h4 : hg ≤ 16) (hp : (n : Int) = wd * hg) (h5 : 0 ≤ i) (h6 : i < n) (hr : Rd w w.heap.size A (bs.map Value.bool)) :
    Calls Try.prog 106 #[.agg #[.int .i64 wd, .int .i64 hg, .slice A n c], .int .i64 i] w fun e w' => e = .returned (.bool (touchB wd hg bs i)) ∧ Below w.heap.size w w' := by
  have eg := enters_of (P := Try.prog) Try.func130 (by kernel_rfl) rfl
  have h6' : i < wd * hg := by omega
  have C := sides_any wd hg i A n c (w.alloc (.cells #[.int .i64 wd, .int .i64 hg, .slice A n c] 27)) h1 h2 h3 h4 h5 h6'
  have HC := Lib.hid C
  have HM := Lib.hid (nb_mem h1 h5 h6')
  have Hr := Lib.hid (hr.next (below_new w (.cells #[.int .i64 wd, .int .i64 hg, .slice A n c] 27)))
  have Hn := Lib.hid hn
  have Hp := Lib.hid hp
  have Eg := Lib.hid eg
  have hl := nb_le wd hg i
  clear C hr hn hp eg h6 h6'
  have hmf : ∀ (fn : Fn) (first cap : Array Value) (w : World), (Instr.makeFunc fn first cap).run Try.prog w = .ok (.func fn first cap) w := fun _ _ _ _ => rfl
  go_enter Try.func106, Try.ntmps106
  go_wp2_with fail
  refine HC.out.mono ?_
  rintro e w1 ⟨⟨v, rfl, ho⟩, hb⟩
  obtain ⟨A2, c2, rfl, hr2⟩ := own_shape ho
  have HB := Lib.hid hb
  have K1 := Lib.hid ((FBox.new w 27 wd hg (.slice A n c)).below hb (by simp))
  have z1 : w.heap.size < w1.heap.size := by have := hb.size; simp at this; omega
  have R1 := Lib.hid (Hr.out.next hb)
  have C2 := containsFunc_i64 130 #[.pointer (some ⟨w.heap.size, 0, none⟩)] Eg.out (full bs) A2 _ c2 (nb wd hg i) w1 rfl (by omega) hr2
    (fun W x hx hbw => touchFn_any x wd hg w.heap.size A n c bs W (K1.out.below hbw z1) Hn.out (R1.out.next hbw) (HM.out x hx).1 (by have := (HM.out x hx).2; have := Hp.out; omega))
  have HC2 := Lib.hid C2
  clear ho hb hr2 C2
  go_wp2_with fail
  refine HC2.out.mono ?_
  rintro e w2 ⟨rfl, hb2⟩
  have HB2 := Lib.hid (bthen (below_new w _) (bthen HB.out hb2)); clear hb2
  go_wp2
  go_ret
  exact ⟨rfl, HB2.out⟩
theorem drewn_below {w w2 : World} {B : Nat} (h : Below B w w2) (q : Nat) : Below B w (w2.drewN q) := below_drewN h q
set_option maxHeartbeats 1000000 in
set_option maxRecDepth 100000 in
theorem l07Touches_any (wd hg i : Int) (A : Option Addr) (n c b : Nat) (bs : List Bool) (w : World) (hn : bs.length = n) (h1 : 1 ≤ wd) (h2 : wd ≤ 16) (h3 : 1 ≤ hg) (h4 : hg ≤ 16) (hp : (n : Int) = wd * hg) (h5 : 0 ≤ i) (h6 : i < n) (hr : Rd w w.heap.size A (bs.map Value.bool)) (hx : FBox w b wd hg (.slice A n c)) (hb : b < w.heap.size) :
    Calls Try.prog 103 #[.pointer (some ⟨b, 0, none⟩), .int .i64 i] w fun e w' => e = .returned (.bool (touchB wd hg bs i)) ∧ Below w.heap.size w w' := by
  have h6' : i < wd * hg := by omega
  have HC := Lib.hid (l07Beside_any wd hg i w.drew h1 h2 h3 h4 h5 h6')
  have HM := Lib.hid (nb_mem h1 h5 h6')
  have Hr := Lib.hid hr
  have Hn := Lib.hid hn
  have Hp := Lib.hid hp
  have hl := nb_le wd hg i
  have KX := Lib.hid hx
  obtain ⟨k0, k1, k2⟩ := hx
  clear hr hn hp h6 h6'
  go_enter Try.func103, Try.ntmps103
  go_wp2_with fail
  go_still_tail 9, (by kernel_rfl)
  change wpList _ _ _ _ _ w.drew
  go_wp2_with fail
  refine HC.out.mono ?_
  rintro e w1 ⟨⟨v, rfl, ho⟩, hbd⟩
  obtain ⟨A2, c2, rfl, hr2⟩ := own_shape ho
  have hb1 := undrew hbd
  have HB := Lib.hid hb1
  have K1 := Lib.hid (KX.out.below hb1 hb)
  have R1 := Lib.hid (Hr.out.next hb1)
  have R2 := Lib.hid hr2
  clear ho hbd hb1 hr2 k0 k1 k2
  obtain ⟨k0, k1, k2⟩ := K1.out
  go_wp2_with fail
  go_loopw [6, 19] (fun _ i' wx => ∃ j : Nat, j ≤ (nb wd hg i).length ∧ i' = .int .i64 j ∧ Hid (((nb wd hg i).take j).any (full bs) = false) ∧ ∃ q, wx = w1.drewN q) (fun _ i' _ => (nb wd hg i).length - (intOf i').toNat)
  case atStart => exact ⟨0, Nat.zero_le _, rfl, Lib.hid rfl, 0, rfl⟩
  case round =>
    obtain ⟨j, hj, rfl, HA, q, rfl⟩ := hrel
    by_cases hjl : j < (nb wd hg i).length
    · obtain ⟨ad2, rfl, _, hy⟩ := R2.out.at_ (k := j) (by simpa using hjl)
      rw [List.getElem_map] at hy
      obtain ⟨m1, m2⟩ := HM.out _ (List.getElem_mem hjl)
      have HS : Hid (full bs (nb wd hg i)[j] = false → ((nb wd hg i).take (j + 1)).any (full bs) = false) := Lib.hid (any_step hjl HA.out)
      have HT : Hid (full bs (nb wd hg i)[j] = true → touchB wd hg bs i = true) := Lib.hid (any_found hjl)
      obtain ⟨x, hxe⟩ : ∃ x, x = (nb wd hg i)[j] := ⟨_, rfl⟩
      rw [← hxe] at hy m1 m2 HS HT
      have hxn : x < (n : Int) := by have := Hp.out; omega
      obtain ⟨hxl, hxf⟩ := full_get (bs := bs) Hn.out m1 hxn
      obtain ⟨ad3, hade, _, hz3⟩ := R1.out.at_ (k := x.toNat) (by simpa using hxl)
      obtain rfl : A = some ad3 := hade
      rw [List.getElem_map, ← hxf] at hz3
      clear hxe hxf hxl
      cases hbx : full bs x
      · have HS2 := Lib.hid (HS.out hbx)
        rw [hbx] at hz3
        clear hbx
        go_wp2
        go_quiet (fail)
        go_wp2
        go_roundw
        case rel => exact ⟨j + 1, by omega, by go_num, HS2.out, _, rfl⟩
        case measure => simp [intOf]; omega
      · have HT2 := Lib.hid (HT.out hbx)
        rw [hbx] at hz3
        clear hbx
        go_wp2
        go_quiet (fail)
        go_wp2
        go_ret
        exact ⟨ret_bool HT2.out.symm, by first | exact below_drewN (below_drewN HB.out _) _ | exact below_drewN HB.out _⟩
    · have HT : Hid (touchB wd hg bs i = false) := Lib.hid (any_none (show (nb wd hg i).length ≤ j by omega) HA.out)
      go_wp2
      go_ret
      exact ⟨ret_bool HT.out.symm, below_drewN HB.out _⟩
end Go.Proofs.Ytbefcfdmaafghaa
