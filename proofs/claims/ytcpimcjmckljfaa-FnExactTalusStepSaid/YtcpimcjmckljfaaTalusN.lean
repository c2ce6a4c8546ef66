/- TalusStep, both ways, at arguments that are not such; the two contracts. -/
import Derived.Test.YtcpimcjmckljfaaTalusS
namespace Go.Proofs.Ytcpimcjmckljfaa
open Ieee Go.RowKit
theorem talR_some {wd hg : Int} {xs rs : List Nat} {t h z : Nat} (hr : talR wd hg xs t h = some (rs, z)) : rs.length = xs.length ∧ nanF .f32 z = false := by
  unfold talR at hr
  split at hr
  · rename_i ho
    injection hr with hr
    unfold talOk at ho
    rw [Bool.and_eq_true, Bool.and_eq_true] at ho
    have e1 : rs = (talE wd hg xs t h).1 := by rw [hr]
    have e2 : z = (talE wd hg xs t h).2 := by rw [hr]
    rw [e1, e2]
    exact ⟨talusK_len wd hg xs t h _, fin_num ho.2.2⟩
  · cases hr
set_option maxHeartbeats 4000000 in
set_option maxRecDepth 100000 in
theorem talus_no (wd hg : Int) (A : Option Addr) (n c t h : Nat) (xs : List Nat) (w : World) (hn : xs.length = n) (hm : n ≤ 1048576) (hr : Rd w w.heap.size A (xs.map (Value.float .f32))) (hA : talA wd hg xs t h = false) :
    Calls Try.prog 27 #[.agg #[.int .i64 wd, .int .i64 hg, .slice A n c], .float .f32 t, .float .f32 h] w fun e w' => GivesSFB w.heap.size 0 0 [] 0 false e w' ∧ Below w.heap.size w w' := by
  unfold talA at hA
  obtain ⟨W0, hW0⟩ : ∃ W0, W0 = (w.alloc (.cells #[.int .i64 wd, .int .i64 hg, .slice A n c] 41)).alloc (.cells #[.int .i64 0, .int .i64 0, .slice none 0 0] 41) := ⟨_, rfl⟩
  have B0 : Hid (Below w.heap.size w W0) := Lib.hid (by rw [hW0]; exact bthen (below_new w _) (below_new _ _))
  have hz0' : w.heap.size + 1 < W0.heap.size := by rw [hW0]; simp
  have K0 : Hid (FBox W0 w.heap.size wd hg (.slice A n c)) := Lib.hid (by rw [hW0]; exact ⟨by simp [go_sem], by simp [go_sem], by simp [go_sem]⟩)
  have X0 : Hid (Open3 W0 (w.heap.size + 1)) := Lib.hid (by rw [hW0]; simpa using Open3.new (w.alloc (.cells #[.int .i64 wd, .int .i64 hg, .slice A n c] 41)))
  have R0 := Lib.hid ((hr.below B0.out).more B0.out.size)
  have C1 := validSheet_any wd hg A n c xs W0 hn (by omega) R0.out
  have C2 := fun W => isFinite_any t W
  clear hr
  cases hv : vS wd hg xs
  · rw [hv] at C1
    have H1 := Lib.hid C1
    clear C1 C2 hv hA hn
    go_enter Try.func27, Try.ntmps27
    go_wp2_with fail
    rw [← hW0]
    clear hW0
    obtain ⟨k0, k1, k2⟩ := K0.out
    refine H1.out.mono ?_
    rintro e w1 ⟨rfl, hb1⟩
    have B1 := Lib.hid hb1
    clear hb1 k0 k1 k2 H1
    have BZ := B1
    obtain ⟨⟨x0, x1, x2⟩, y0, y1, y2⟩ := X0.out.below BZ.out hz0'
    go_wp2
    refine bodyPost_ret (v := .tuple #[.agg #[.int .i64 0, .int .i64 0, .slice none 0 0], .float .f32 0, .bool false]) (by simp [results, Try.results27, go_sem, x0, x1, x2]) rfl ⟨⟨none, 0, rfl, World.ownsRow_nil _ _ _ _⟩, ?_⟩
    exact ((((B0.out.trans (BZ.out.mono B0.out.size)).setCell (by simp) _).setCell (by simp) _).setCell (by simp) _)
  · rw [hv] at C1 hA
    have H1 := Lib.hid C1
    clear C1 hv hn
    cases ht : finB t
    · rw [ht] at C2
      have H2 := Lib.hid C2
      clear C2 hA ht
      go_enter Try.func27, Try.ntmps27
      go_wp2_with fail
      rw [← hW0]
      clear hW0
      obtain ⟨k0, k1, k2⟩ := K0.out
      refine H1.out.mono ?_
      rintro e w1 ⟨rfl, hb1⟩
      have B1 := Lib.hid hb1
      clear hb1 k0 k1 k2 H1
      go_wp2_with fail
      refine (H2.out _).mono ?_
      rintro e w2 ⟨rfl, m2, hw2⟩
      have B2 : Hid (Below W0.heap.size W0 w2) := Lib.hid (by rw [hw2]; exact below_drewN B1.out _)
      clear hw2
      have BZ := B2
      obtain ⟨⟨x0, x1, x2⟩, y0, y1, y2⟩ := X0.out.below BZ.out hz0'
      go_wp2
      refine bodyPost_ret (v := .tuple #[.agg #[.int .i64 0, .int .i64 0, .slice none 0 0], .float .f32 0, .bool false]) (by simp [results, Try.results27, go_sem, x0, x1, x2]) rfl ⟨⟨none, 0, rfl, World.ownsRow_nil _ _ _ _⟩, ?_⟩
      exact ((((B0.out.trans (BZ.out.mono B0.out.size)).setCell (by simp) _).setCell (by simp) _).setCell (by simp) _)
    · rw [ht] at C2 hA
      have H2 := Lib.hid C2
      clear C2 ht
      cases g0 : geF t 0
      · have e0 := g0
        unfold geF at e0
        clear g0 hA
        go_enter Try.func27, Try.ntmps27
        go_wp2_with fail
        rw [← hW0]
        clear hW0
        obtain ⟨k0, k1, k2⟩ := K0.out
        refine H1.out.mono ?_
        rintro e w1 ⟨rfl, hb1⟩
        have B1 := Lib.hid hb1
        clear hb1 k0 k1 k2 H1
        go_wp2_with fail
        refine (H2.out _).mono ?_
        rintro e w2 ⟨rfl, m2, hw2⟩
        have B2 : Hid (Below W0.heap.size W0 w2) := Lib.hid (by rw [hw2]; exact below_drewN B1.out _)
        clear hw2
        have BZ := B2
        obtain ⟨⟨x0, x1, x2⟩, y0, y1, y2⟩ := X0.out.below BZ.out hz0'
        go_wp2
        refine bodyPost_ret (v := .tuple #[.agg #[.int .i64 0, .int .i64 0, .slice none 0 0], .float .f32 0, .bool false]) (by simp [results, Try.results27, go_sem, x0, x1, x2]) rfl ⟨⟨none, 0, rfl, World.ownsRow_nil _ _ _ _⟩, ?_⟩
        exact ((((B0.out.trans (BZ.out.mono B0.out.size)).setCell (by simp) _).setCell (by simp) _).setCell (by simp) _)
      · have e0 := g0
        unfold geF at e0
        rw [g0] at hA
        clear g0
        cases g1 : geF h 0
        · have e1 := g1
          unfold geF at e1
          clear g1 hA
          go_enter Try.func27, Try.ntmps27
          go_wp2_with fail
          rw [← hW0]
          clear hW0
          obtain ⟨k0, k1, k2⟩ := K0.out
          refine H1.out.mono ?_
          rintro e w1 ⟨rfl, hb1⟩
          have B1 := Lib.hid hb1
          clear hb1 k0 k1 k2 H1
          go_wp2_with fail
          refine (H2.out _).mono ?_
          rintro e w2 ⟨rfl, m2, hw2⟩
          have B2 : Hid (Below W0.heap.size W0 w2) := Lib.hid (by rw [hw2]; exact below_drewN B1.out _)
          clear hw2
          have BZ := B2
          obtain ⟨⟨x0, x1, x2⟩, y0, y1, y2⟩ := X0.out.below BZ.out hz0'
          go_wp2
          refine bodyPost_ret (v := .tuple #[.agg #[.int .i64 0, .int .i64 0, .slice none 0 0], .float .f32 0, .bool false]) (by simp [results, Try.results27, go_sem, x0, x1, x2]) rfl ⟨⟨none, 0, rfl, World.ownsRow_nil _ _ _ _⟩, ?_⟩
          exact ((((B0.out.trans (BZ.out.mono B0.out.size)).setCell (by simp) _).setCell (by simp) _).setCell (by simp) _)
        · have g2 : leF h 1040187392 = false := by rw [g1] at hA; simpa using hA
          have e1 := g1
          have e2 := g2
          unfold geF at e1
          unfold leF at e2
          clear g1 g2 hA
          go_enter Try.func27, Try.ntmps27
          go_wp2_with fail
          rw [← hW0]
          clear hW0
          obtain ⟨k0, k1, k2⟩ := K0.out
          refine H1.out.mono ?_
          rintro e w1 ⟨rfl, hb1⟩
          have B1 := Lib.hid hb1
          clear hb1 k0 k1 k2 H1
          go_wp2_with fail
          refine (H2.out _).mono ?_
          rintro e w2 ⟨rfl, m2, hw2⟩
          have B2 : Hid (Below W0.heap.size W0 w2) := Lib.hid (by rw [hw2]; exact below_drewN B1.out _)
          clear hw2
          have BZ := B2
          obtain ⟨⟨x0, x1, x2⟩, y0, y1, y2⟩ := X0.out.below BZ.out hz0'
          go_wp2
          refine bodyPost_ret (v := .tuple #[.agg #[.int .i64 0, .int .i64 0, .slice none 0 0], .float .f32 0, .bool false]) (by simp [results, Try.results27, go_sem, x0, x1, x2]) rfl ⟨⟨none, 0, rfl, World.ownsRow_nil _ _ _ _⟩, ?_⟩
          exact ((((B0.out.trans (BZ.out.mono B0.out.size)).setCell (by simp) _).setCell (by simp) _).setCell (by simp) _)
theorem talus_any (wd hg : Int) (A : Option Addr) (n c t h : Nat) (xs : List Nat) (w : World) (hn : xs.length = n) (hm : n ≤ 1048576) (hr : Rd w w.heap.size A (xs.map (Value.float .f32))) :
    Calls Try.prog 27 #[.agg #[.int .i64 wd, .int .i64 hg, .slice A n c], .float .f32 t, .float .f32 h] w fun e w' => GivesTal w.heap.size wd hg (talR wd hg xs t h) e w' ∧ Below w.heap.size w w' := by
  cases ho : talA wd hg xs t h
  · exact (talus_no wd hg A n c t h xs w hn hm hr ho).mono fun e w' h => ⟨gives_none (tal_no ho) h.1, h.2⟩
  · unfold talA at ho
    rw [Bool.and_eq_true, Bool.and_eq_true, Bool.and_eq_true, Bool.and_eq_true] at ho
    exact talus_yes wd hg A n c t h xs w hn hr ho.1.1 ho.1.2.1 ho.1.2.2 ho.2.1 ho.2.2
set_option maxHeartbeats 4000000 in
set_option maxRecDepth 100000 in
theorem specTalus_no (wd hg : Int) (A : Option Addr) (n c t h : Nat) (xs : List Nat) (w : World) (hn : xs.length = n) (hm : n ≤ 1048576) (hr : Rd w w.heap.size A (xs.map (Value.float .f32))) (hA : talA wd hg xs t h = false) :
    Calls Try.prog 25 #[.agg #[.int .i64 wd, .int .i64 hg, .slice A n c], .float .f32 t, .float .f32 h] w fun e w' => GivesSFB w.heap.size 0 0 [] 0 false e w' ∧ Below w.heap.size w w' := by
  unfold talA at hA
  obtain ⟨W0, hW0⟩ : ∃ W0, W0 = (w.alloc (.cells #[.int .i64 wd, .int .i64 hg, .slice A n c] 41)).alloc (.cells #[.int .i64 0, .int .i64 0, .slice none 0 0] 41) := ⟨_, rfl⟩
  have B0 : Hid (Below w.heap.size w W0) := Lib.hid (by rw [hW0]; exact bthen (below_new w _) (below_new _ _))
  have hz0' : w.heap.size + 1 < W0.heap.size := by rw [hW0]; simp
  have K0 : Hid (FBox W0 w.heap.size wd hg (.slice A n c)) := Lib.hid (by rw [hW0]; exact ⟨by simp [go_sem], by simp [go_sem], by simp [go_sem]⟩)
  have X0 : Hid (Open3 W0 (w.heap.size + 1)) := Lib.hid (by rw [hW0]; simpa using Open3.new (w.alloc (.cells #[.int .i64 wd, .int .i64 hg, .slice A n c] 41)))
  have R0 := Lib.hid ((hr.below B0.out).more B0.out.size)
  have C1 := l05Is_any wd hg A n c w.heap.size xs W0 hn (by omega) R0.out K0.out
  have C2 := fun W => l02Least_any t W
  clear hr
  cases hv : vS wd hg xs
  · rw [hv] at C1
    have H1 := Lib.hid C1
    clear C1 C2 hv hA hn
    go_enter Try.func25, Try.ntmps25
    go_wp2_with fail
    rw [← hW0]
    clear hW0
    obtain ⟨k0, k1, k2⟩ := K0.out
    refine H1.out.mono ?_
    rintro e w1 ⟨rfl, m1, hw1⟩
    have B1 : Hid (Below W0.heap.size W0 w1) := Lib.hid (by rw [hw1]; exact below_drewN (Below.refl _ _) _)
    clear hw1 k0 k1 k2 H1
    have BZ := B1
    obtain ⟨⟨x0, x1, x2⟩, y0, y1, y2⟩ := X0.out.below BZ.out hz0'
    go_wp2
    refine bodyPost_ret (v := .tuple #[.agg #[.int .i64 0, .int .i64 0, .slice none 0 0], .float .f32 0, .bool false]) (by simp [results, Try.results25, go_sem, x0, x1, x2]) rfl ⟨⟨none, 0, rfl, World.ownsRow_nil _ _ _ _⟩, ?_⟩
    exact ((((B0.out.trans (BZ.out.mono B0.out.size)).setCell (by simp) _).setCell (by simp) _).setCell (by simp) _)
  · rw [hv] at C1 hA
    have H1 := Lib.hid C1
    clear C1 hv hn
    cases ht : (finB t && geF t 0)
    · rw [ht] at C2
      have H2 := Lib.hid C2
      clear C2 hA ht
      go_enter Try.func25, Try.ntmps25
      go_wp2_with fail
      rw [← hW0]
      clear hW0
      obtain ⟨k0, k1, k2⟩ := K0.out
      refine H1.out.mono ?_
      rintro e w1 ⟨rfl, m1, hw1⟩
      have B1 : Hid (Below W0.heap.size W0 w1) := Lib.hid (by rw [hw1]; exact below_drewN (Below.refl _ _) _)
      clear hw1 k0 k1 k2 H1
      go_wp2_with fail
      refine (H2.out _).mono ?_
      rintro e w2 ⟨rfl, m2, hw2⟩
      have B2 : Hid (Below W0.heap.size W0 w2) := Lib.hid (by rw [hw2]; exact below_drewN B1.out _)
      clear hw2
      have BZ := B2
      obtain ⟨⟨x0, x1, x2⟩, y0, y1, y2⟩ := X0.out.below BZ.out hz0'
      go_wp2
      refine bodyPost_ret (v := .tuple #[.agg #[.int .i64 0, .int .i64 0, .slice none 0 0], .float .f32 0, .bool false]) (by simp [results, Try.results25, go_sem, x0, x1, x2]) rfl ⟨⟨none, 0, rfl, World.ownsRow_nil _ _ _ _⟩, ?_⟩
      exact ((((B0.out.trans (BZ.out.mono B0.out.size)).setCell (by simp) _).setCell (by simp) _).setCell (by simp) _)
    · rw [ht] at C2 hA
      have H2 := Lib.hid C2
      clear C2 ht
      cases g1 : geF h 0
      · have e1 := g1
        unfold geF at e1
        clear g1 hA
        go_enter Try.func25, Try.ntmps25
        go_wp2_with fail
        rw [← hW0]
        clear hW0
        obtain ⟨k0, k1, k2⟩ := K0.out
        refine H1.out.mono ?_
        rintro e w1 ⟨rfl, m1, hw1⟩
        have B1 : Hid (Below W0.heap.size W0 w1) := Lib.hid (by rw [hw1]; exact below_drewN (Below.refl _ _) _)
        clear hw1 k0 k1 k2 H1
        go_wp2_with fail
        refine (H2.out _).mono ?_
        rintro e w2 ⟨rfl, m2, hw2⟩
        have B2 : Hid (Below W0.heap.size W0 w2) := Lib.hid (by rw [hw2]; exact below_drewN B1.out _)
        clear hw2
        have BZ := B2
        obtain ⟨⟨x0, x1, x2⟩, y0, y1, y2⟩ := X0.out.below BZ.out hz0'
        go_wp2
        refine bodyPost_ret (v := .tuple #[.agg #[.int .i64 0, .int .i64 0, .slice none 0 0], .float .f32 0, .bool false]) (by simp [results, Try.results25, go_sem, x0, x1, x2]) rfl ⟨⟨none, 0, rfl, World.ownsRow_nil _ _ _ _⟩, ?_⟩
        exact ((((B0.out.trans (BZ.out.mono B0.out.size)).setCell (by simp) _).setCell (by simp) _).setCell (by simp) _)
      · have g2 : leF h 1040187392 = false := by rw [g1] at hA; simpa using hA
        have e1 := g1
        have e2 := g2
        unfold geF at e1
        unfold leF at e2
        clear g1 g2 hA
        go_enter Try.func25, Try.ntmps25
        go_wp2_with fail
        rw [← hW0]
        clear hW0
        obtain ⟨k0, k1, k2⟩ := K0.out
        refine H1.out.mono ?_
        rintro e w1 ⟨rfl, m1, hw1⟩
        have B1 : Hid (Below W0.heap.size W0 w1) := Lib.hid (by rw [hw1]; exact below_drewN (Below.refl _ _) _)
        clear hw1 k0 k1 k2 H1
        go_wp2_with fail
        refine (H2.out _).mono ?_
        rintro e w2 ⟨rfl, m2, hw2⟩
        have B2 : Hid (Below W0.heap.size W0 w2) := Lib.hid (by rw [hw2]; exact below_drewN B1.out _)
        clear hw2
        have BZ := B2
        obtain ⟨⟨x0, x1, x2⟩, y0, y1, y2⟩ := X0.out.below BZ.out hz0'
        go_wp2
        refine bodyPost_ret (v := .tuple #[.agg #[.int .i64 0, .int .i64 0, .slice none 0 0], .float .f32 0, .bool false]) (by simp [results, Try.results25, go_sem, x0, x1, x2]) rfl ⟨⟨none, 0, rfl, World.ownsRow_nil _ _ _ _⟩, ?_⟩
        exact ((((B0.out.trans (BZ.out.mono B0.out.size)).setCell (by simp) _).setCell (by simp) _).setCell (by simp) _)
theorem specTalus_any (wd hg : Int) (A : Option Addr) (n c t h : Nat) (xs : List Nat) (w : World) (hn : xs.length = n) (hm : n ≤ 1048576) (hr : Rd w w.heap.size A (xs.map (Value.float .f32))) :
    Calls Try.prog 25 #[.agg #[.int .i64 wd, .int .i64 hg, .slice A n c], .float .f32 t, .float .f32 h] w fun e w' => GivesTal w.heap.size wd hg (talR wd hg xs t h) e w' ∧ Below w.heap.size w w' := by
  cases ho : talA wd hg xs t h
  · exact (specTalus_no wd hg A n c t h xs w hn hm hr ho).mono fun e w' h => ⟨gives_none (tal_no ho) h.1, h.2⟩
  · unfold talA at ho
    rw [Bool.and_eq_true, Bool.and_eq_true, Bool.and_eq_true, Bool.and_eq_true] at ho
    exact specTalus_yes wd hg A n c t h xs w hn hr ho.1.1 ho.1.2.1 ho.1.2.2 ho.2.1 ho.2.2
end Go.Proofs.Ytcpimcjmckljfaa
