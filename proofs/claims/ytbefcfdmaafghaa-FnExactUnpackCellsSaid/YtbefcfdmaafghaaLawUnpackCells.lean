/- The law FnExactUnpackCells answers true, whatever the text. -/
import Derived.Test.YtbefcfdmaafghaaUnpackSpec
import Derived.Test.YtbefcfdmaafghaaEmpty
namespace Go.Proofs.Ytbefcfdmaafghaa
open Go.RowKit
theorem uI_len (s : ByteArray) : ((uI s).getD []).length ≤ 256 := by
  unfold uI
  split
  · rename_i o h
    have := ((un_rel (bytesN s) false [] (by simp)).1 o h).2
    split
    · simpa using this
    · simp
  · simp
set_option maxHeartbeats 4000000 in
theorem lawUnpackCells (s : ByteArray) (w : World) (hm : s.size ≤ 9223372036854775807) :
    Calls Try.prog 11 #[.string s] w fun e w' => e = .returned (.bool true) ∧ Below w.heap.size w w' := by
  by_cases hs : s.size ≤ 1048576
  · have hl := uI_len s
    have c46 := fun W => unpackCells_any s W hs
    have c45 := fun W => specUnpack_any s W hs
    rw [← uI_uS] at c45
    obtain ⟨bs, hbs⟩ : ∃ bs, bs = (uI s).getD [] := ⟨_, rfl⟩
    obtain ⟨q, hq⟩ : ∃ q, q = (uI s).isSome := ⟨_, rfl⟩
    rw [← hbs, ← hq] at c45 c46
    rw [← hbs] at hl
    clear hbs hq
    have C45 := Lib.hid c45; clear c45
    have C46 := Lib.hid c46; clear c46
    have hc : bs.length ≤ 140737488351232 := by omega
    have hqq : (q == q) = true := by simp
    go_enter Try.func11, Try.ntmps11
    go_wp2_with fail
    refine (C45.out _).mono ?_
    rintro e w1 ⟨A1, c1, rfl, ho1, hb1⟩
    have B1 := Lib.hid hb1
    have O1 := Lib.hid ho1
    have hBw := Lib.hid hb1.size
    clear hb1 ho1
    go_wp2_with fail
    refine (C46.out _).mono ?_
    rintro e w2 ⟨A2, c2, rfl, ho2, hb2⟩
    have B2 := Lib.hid (bthen B1.out hb2)
    have P2 := Lib.hid (own_next O1.out hb2)
    have O2 := Lib.hid ho2
    have L1 : Hid (∀ k, (Value.slice A1 bs.length c1).ownBlock = some k → k < w1.heap.size) := fun k hk => (O1.out.lt k hk).2
    clear hb2 ho2 B1 O1
    go_wp2_with fail
    refine (eqBoolS_any A2 A1 _ c2 _ c1 bs bs w2 rfl rfl hc hc (Rd.own O2.out) (Rd.own P2.out)).mono ?_
    rintro e w3 ⟨rfl, m, rfl⟩
    rw [sameL_self]
    have B3 := Lib.hid (below_drewN B2.out m)
    have P3 := Lib.hid (own_next P2.out (below_drewN (Below.refl _ _) m))
    have O3 := Lib.hid (own_next O2.out (below_drewN (Below.refl _ _) m))
    clear B2 P2 O2
    go_wp2_with fail
    refine (markBoolS_any A2 _ c2 1 _ _ _ (by omega) O3.out).mono ?_
    rintro e w4 ⟨rfl, ho4, hg4⟩
    have B4 := Lib.hid (B3.out.grown hg4 B3.out.size (fun k hk => by have := (O3.out.lt k hk).1; have := hBw.out; omega))
    have P4 := Lib.hid (own_grown P3.out O3.out L1.out hg4)
    have O4 := Lib.hid ho4
    clear ho4 hg4 B3 P3 O3
    go_wp2_with fail
    refine (heldBoolS_any A2 _ c2 1 w4 (by omega) (Rd.own O4.out)).mono ?_
    rintro e w5 ⟨rfl, rfl⟩
    go_wp2_with fail
    refine (C46.out _).mono ?_
    rintro e w6 ⟨A6, c6, rfl, ho6, hb6⟩
    have B6 := Lib.hid (bthen B4.out hb6)
    have P6 := Lib.hid (own_next P4.out hb6)
    have O6 := Lib.hid (own_next O4.out hb6)
    have Q6 := Lib.hid ho6
    clear ho6 hb6 B4 P4 O4
    go_wp2_with fail
    refine (eqBoolS_any A6 A1 _ c6 _ c1 bs bs w6 rfl rfl hc hc (Rd.own Q6.out) (Rd.own P6.out)).mono ?_
    rintro e w7 ⟨rfl, m7, rfl⟩
    rw [sameL_self]
    have B7 := Lib.hid (below_drewN B6.out m7)
    have O7 := Lib.hid (own_next O6.out (below_drewN (Below.refl _ _) m7))
    clear B6 O6 P6 Q6
    go_wp2_with fail
    refine (heldBoolS_any A2 _ c2 1 _ (by omega) (Rd.own O7.out)).mono ?_
    rintro e w8 ⟨rfl, rfl⟩
    go_wp2
    go_ret
    exact ⟨rfl, B7.out⟩
  · go_enter Try.func11, Try.ntmps11
    go_wp2
    go_ret
    exact ⟨rfl, Below.refl _ _⟩
end Go.Proofs.Ytbefcfdmaafghaa
