/- Slopes and bases, tested. -/
import Derived.Test.YtbojlgbkkdnegaaBo
namespace Go.Proofs.Ytbojlgbkkdnegaa
open Ieee Go.RowKit
set_option maxHeartbeats 8000000 in
set_option maxRecDepth 100000 in
theorem slopeOf_any (A A' : Option Addr) (n n' c c' : Nat) (xs ys : List Nat) (w : World) (hn : xs.length = n) (hn' : ys.length = n') (hm : n ≤ 1048576) (hm' : n' ≤ 1048576) (hr : Rd w w.heap.size A (xs.map (Value.float .f32))) (hr' : Rd w w.heap.size A' (ys.map (Value.float .f32))) :
    Calls Try.prog 15 #[.slice A n c, .slice A' n' c'] w fun e w' => GivesS xs ys e ∧ Below w.heap.size w w' := by
  have c1 := isList_any A n c xs w hn hm hr
  have c2 := fun (W : World) (hb : Below w.heap.size w W) => isList_any A' n' c' ys W hn' hm' (hr'.next hb)
  cases hl : listB xs
  · rw [hl] at c1
    have HO : Hid (slopeOk xs ys = false) := Lib.hid (by unfold slopeOk slopeIn; rw [hl]; rfl)
    have HC1 := Lib.hid c1
    clear c1 c2 hr hr' hl hn hn'
    go_enter Try.func15, Try.ntmps15
    go_wp2_with fail
    refine HC1.out.mono ?_
    rintro e w1 ⟨rfl, hb⟩
    have B1 := Lib.hid hb
    clear hb
    go_wp2
    go_ret3
    exact ⟨⟨0, 0, by rw [HO.out]; rfl, fun h => by rw [HO.out] at h; cases h⟩, B1.out⟩
  · rw [hl] at c1
    cases hl' : listB ys
    · rw [hl'] at c2
      have HO : Hid (slopeOk xs ys = false) := Lib.hid (by unfold slopeOk slopeIn; rw [hl']; simp)
      have HC1 := Lib.hid c1
      have HC2f := Lib.hid c2
      clear c1 c2 hr hr' hl hl' hn hn'
      go_enter Try.func15, Try.ntmps15
      go_wp2_with fail
      refine HC1.out.mono ?_
      rintro e w1 ⟨rfl, hb⟩
      have B1 := Lib.hid hb
      have HC2 := Lib.hid (HC2f.out w1 hb)
      clear hb
      go_wp2_with fail
      refine HC2.out.mono ?_
      rintro e w2 ⟨rfl, hb⟩
      have B2 := Lib.hid (bthen B1.out hb)
      clear hb
      go_wp2
      go_ret3
      exact ⟨⟨0, 0, by rw [HO.out]; rfl, fun h => by rw [HO.out] at h; cases h⟩, B2.out⟩
    · rw [hl'] at c2
      by_cases hq : n = n'
      · subst hq
        by_cases h2 : 2 ≤ n
        · skip
          have HI : Hid (slopeOk xs ys = (neB (slopeE xs) && (finB (slopeS xs ys) && finB (slopeB xs ys)))) := Lib.hid (by
            unfold slopeOk slopeIn
            rw [hl, hl', show decide (xs.length = ys.length) = true by rw [decide_eq_true_eq]; omega, show decide (2 ≤ xs.length) = true by rw [decide_eq_true_eq]; omega]
            simp only [Bool.true_and])
          have HC1 := Lib.hid c1
          have HC2f := Lib.hid c2
          have hf := (listB_len hl).2
          have hf' := (listB_len hl').2
          clear c1 c2 hl hl' hm'
          have cs := fun (W : World) (hb : Below w.heap.size w W) => slope_any A A' n c c' xs ys W hf hf' hn hn' hm (hr.next hb) (hr'.next hb)
          have HS := Lib.hid cs
          clear cs hf hf' hr hr' hn hn'
          go_enter Try.func15, Try.ntmps15
          go_wp2_with fail
          refine HC1.out.mono ?_
          rintro e w1 ⟨rfl, hb⟩
          have B1 := Lib.hid hb
          have HC2 := Lib.hid (HC2f.out w1 hb)
          clear hb
          go_wp2_with fail
          refine HC2.out.mono ?_
          rintro e w2 ⟨rfl, hb⟩
          have B2 := Lib.hid (bthen B1.out hb)
          clear hb
          go_wp2_with fail
          refine (HS.out w2 B2.out).mono ?_
          rintro e w' ⟨⟨s, b, d, rfl, hs, hb, hd⟩, m, rfl⟩
          have B3 := Lib.hid (below_drewN B2.out m)
          have hnd := neB_sim hd
          have c63s := fun W => isFinite_any s W
          have c63b := fun W => isFinite_any b W
          rw [finB_sim hs] at c63s
          rw [finB_sim hb] at c63b
          cases h1 : neB (slopeE xs)
          · rw [h1] at hnd
            have HO : Hid (slopeOk xs ys = false) := Lib.hid (by rw [HI.out, h1]; rfl)
            have he : (FloatKind.f32.format.order d 0 == some .eq) = true := by unfold neB at hnd; simpa using hnd
            clear hnd c63s c63b hs hb hd h1
            go_wp2
            go_ret3
            exact ⟨⟨0, 0, by rw [HO.out]; rfl, fun h => by rw [HO.out] at h; cases h⟩, B3.out⟩
          · rw [h1] at hnd
            have he : (FloatKind.f32.format.order d 0 == some .eq) = false := by unfold neB at hnd; simpa using hnd
            cases h2 : finB (slopeS xs ys)
            · rw [h2] at c63s
              have HO : Hid (slopeOk xs ys = false) := Lib.hid (by rw [HI.out, h1, h2]; rfl)
              have HC := Lib.hid c63s
              clear hnd c63s c63b hs hb hd h1 h2
              go_wp2_with fail
              refine (HC.out _).mono ?_
              rintro e w' ⟨rfl, m4, rfl⟩
              go_wp2
              go_ret3
              exact ⟨⟨0, 0, by rw [HO.out]; rfl, fun h => by rw [HO.out] at h; cases h⟩, below_drewN B2.out _⟩
            · rw [h2] at c63s
              have hse := hs.eq (fin_num h2)
              have HC := Lib.hid c63s
              cases h3 : finB (slopeB xs ys)
              · rw [h3] at c63b
                have HO : Hid (slopeOk xs ys = false) := Lib.hid (by rw [HI.out, h1, h2, h3]; rfl)
                have HC' := Lib.hid c63b
                clear hnd c63s c63b hs hb hd h1 h2 h3 hse
                go_wp2_with fail
                refine (HC.out _).mono ?_
                rintro e w' ⟨rfl, m4, rfl⟩
                go_wp2_with fail
                refine (HC'.out _).mono ?_
                rintro e w' ⟨rfl, m5, rfl⟩
                go_wp2
                go_ret3
                exact ⟨⟨0, 0, by rw [HO.out]; rfl, fun h => by rw [HO.out] at h; cases h⟩, below_drewN B2.out _⟩
              · rw [h3] at c63b
                have HO : Hid (slopeOk xs ys = true) := Lib.hid (by rw [HI.out, h1, h2, h3]; rfl)
                have HC' := Lib.hid c63b
                have HV := Lib.hid (And.intro hse (hb.eq (fin_num h3)))
                clear hnd c63s c63b hs hb hd h1 h2 h3 hse
                go_wp2_with fail
                refine (HC.out _).mono ?_
                rintro e w' ⟨rfl, m4, rfl⟩
                go_wp2_with fail
                refine (HC'.out _).mono ?_
                rintro e w' ⟨rfl, m5, rfl⟩
                go_wp2
                go_ret3
                exact ⟨⟨s, b, by rw [HO.out]; rfl, fun _ => HV.out⟩, below_drewN B2.out _⟩
        · have h2' : (n : Int) < 2 := by omega
          have HO : Hid (slopeOk xs ys = false) := Lib.hid (by unfold slopeOk slopeIn; rw [show decide (2 ≤ xs.length) = false by rw [decide_eq_false_iff_not]; omega]; simp)
          have HC1 := Lib.hid c1
          have HC2f := Lib.hid c2
          clear c1 c2 hr hr' hl hl' h2
          go_enter Try.func15, Try.ntmps15
          go_wp2_with fail
          refine HC1.out.mono ?_
          rintro e w1 ⟨rfl, hb⟩
          have B1 := Lib.hid hb
          have HC2 := Lib.hid (HC2f.out w1 hb)
          clear hb
          go_wp2_with fail
          refine HC2.out.mono ?_
          rintro e w2 ⟨rfl, hb⟩
          have B2 := Lib.hid (bthen B1.out hb)
          clear hb
          go_wp2
          go_ret3
          exact ⟨⟨0, 0, by rw [HO.out]; rfl, fun h => by rw [HO.out] at h; cases h⟩, B2.out⟩
      · have hq' : ¬ ((n : Int) = (n' : Int)) := by omega
        have hq2 : ((n : Int) == (n' : Int)) = false := by simp; omega
        have HO : Hid (slopeOk xs ys = false) := Lib.hid (by unfold slopeOk slopeIn; rw [show decide (xs.length = ys.length) = false by rw [decide_eq_false_iff_not]; omega]; simp)
        have HC1 := Lib.hid c1
        have HC2f := Lib.hid c2
        clear c1 c2 hr hr' hl hl' hq
        go_enter Try.func15, Try.ntmps15
        go_wp2_with fail
        refine HC1.out.mono ?_
        rintro e w1 ⟨rfl, hb⟩
        have B1 := Lib.hid hb
        have HC2 := Lib.hid (HC2f.out w1 hb)
        clear hb
        go_wp2_with fail
        refine HC2.out.mono ?_
        rintro e w2 ⟨rfl, hb⟩
        have B2 := Lib.hid (bthen B1.out hb)
        clear hb
        go_wp2
        go_ret3
        exact ⟨⟨0, 0, by rw [HO.out]; rfl, fun h => by rw [HO.out] at h; cases h⟩, B2.out⟩
end Go.Proofs.Ytbojlgbkkdnegaa
