/- Ranks of numbers, the reference's way. -/
import Derived.Test.YtcpimcjmckljfaaRankI
import Derived.BigQuiet
namespace Go.Proofs.Ytcpimcjmckljfaa
open Ieee Go.RowKit
theorem set_pair {D T : List Value} {x y : Value} {i j : Nat} (hi : i = D.length) (hj : j = D.length + 1) : ((D ++ x :: y :: T).set j x).set i y = D ++ y :: x :: T := by
  subst hi hj
  rw [List.set_append_right _ _ (by omega), show D.length + 1 - D.length = 1 by omega, List.set_cons_succ, List.set_cons_zero, List.set_append_right _ _ (Nat.le_refl _), Nat.sub_self, List.set_cons_zero]
theorem get_mid {D T : List Value} {x : Value} {i : Nat} (hi : i = D.length) : (D ++ x :: T)[i]? = some x := by
  subst hi
  simp
set_option maxHeartbeats 8000000 in
set_option maxRecDepth 100000 in
theorem l06Rank_any (A : Option Addr) (n c : Nat) (xs : List Nat) (w : World) (hf : finL xs = true) (hn : xs.length = n) (hm : n ≤ 256) (hr : Rd w w.heap.size A (xs.map (Value.float .f32))) :
    Calls Try.prog 75 #[.slice A n c] w fun e w' => (∃ A' c', e = .returned (.slice A' n c') ∧ w'.ownsRow w.heap.size 2 1 (.slice A' n c') n ((rankL xs).map (fun i : Nat => Value.int .i64 (i : Int)))) ∧ Below w.heap.size w w' := by
  obtain ⟨i0, hi, hz0, hz1, hz2⟩ := info_parts Try.info2
  have HF := Lib.hid (finL_mem hf)
  have Hn := Lib.hid hn
  have Hr := Lib.hid hr
  have hN1 := World.ownsRow_made (e := 2) (size := 1) w #[] 0 (Nat.le_refl w.heap.size) (Nat.zero_le _) rfl
  have HN1 := Lib.hid hN1
  have HB0 := Lib.hid (below_new w (.cells #[] 2))
  clear hf hn hr hN1
  go_enter Try.func75, Try.ntmps75
  go_wp2
  go_loopw [3, 4] (fun v i wr => ∃ (k : Nat) (ls : List Nat), k ≤ n ∧ i = .int .i64 k ∧ Hid (ls.Perm (List.range k) ∧ ls.Pairwise (ltD xs)) ∧ wr.ownsRow w.heap.size 2 1 v k (ls.map (fun i : Nat => Value.int .i64 (i : Int))) ∧ Below w.heap.size w wr) (fun _ i _ => n - (intOf i).toNat)
  case atStart => exact ⟨0, [], Nat.zero_le _, rfl, Lib.hid ⟨.refl _, .nil⟩, HN1.out, HB0.out⟩
  case round =>
    obtain ⟨k, ls, hk, rfl, HP, hv, hb⟩ := hrel
    have HV := Lib.hid hv
    have HB := Lib.hid hb
    have hwz := HB.out.size
    clear hv hb
    obtain ⟨Av, cv, rfl, hrv⟩ := shapeOf HV.out
    by_cases hlt : k < n
    · have hkz : (k : Int) < (n : Int) := by omega
      have HLL : Hid (ls.length = k) := Lib.hid (by rw [HP.out.1.length_eq]; simp)
      clear hrv
      go_wp2_with (at_builtin; go_must (refine wpList_append_own_at _ rfl (.tmp 14) (.tmp 16) 22 rfl w.heap.size 2 i0 (.int .i64 0) 1 8 Try.underlying22 hi hz0 hz1 hz2 rfl (by decide) _ _ _ rfl (HV.out.alloc _) ⟨wr.heap.size, 0, none⟩ 1 1 [.int .i64 k] rfl rfl (newOne wr _ 2) (by intro u hu; simp at hu; subst hu; rfl) ?_ ?_ ?_ ?_))
      · unfold maxLen; omega
      · omega
      · have := HLL.out; simp; omega
      intro v' w7 hown' hgrow _ hat'
      have HV7 : Hid (w7.ownsRow w.heap.size 2 1 v' (k + 1) (((ls ++ k :: []).map (fun i : Nat => Value.int .i64 (i : Int))))) := Lib.hid (by rw [List.map_append]; simpa using hown')
      have HB7 := Lib.hid ((HB.out.alloc hwz (.cells #[.int .i64 k] 2)).grown hgrow (by simp; omega) (fun q hq => (HV.out.lt q hq).1))
      clear hown' hgrow hat' HV HB
      obtain ⟨g, cg, rfl⟩ : ∃ g cg, v' = .slice (some ⟨g, 0, none⟩) (k + 1) cg := by
        rcases HV7.out.2 with ⟨hv, h0⟩ | ⟨g, cap, cur, hv, _⟩
        · omega
        · exact ⟨g, cap, hv⟩
      have HGB : Hid (w.heap.size ≤ g) := Lib.hid (HV7.out.lt g rfl).1
      go_wp2
      go_loopw [5] (fun vj wr => ∃ (j : Nat) (D1 D2 : List Nat), vj = .int .i64 j ∧ j ≤ k ∧ Hid (j = D1.length ∧ D1 ++ D2 = ls ∧ ∀ z ∈ D2, ltD xs k z) ∧ wr.ownsRow w.heap.size 2 1 (.slice (some ⟨g, 0, none⟩) (k + 1) cg) (k + 1) ((D1 ++ k :: D2).map (fun i : Nat => Value.int .i64 (i : Int))) ∧ Below w.heap.size w wr) (fun vj _ => (intOf vj).toNat)
      case atStart => exact ⟨k, ls, [], rfl, Nat.le_refl _, Lib.hid ⟨HLL.out.symm, by simp, fun z hz => by cases hz⟩, HV7.out, HB7.out⟩
      case round =>
        clear HV7 HB7
        obtain ⟨j, D1, D2, rfl, hjk, HD, ho, hb⟩ := hrel
        have HO := Lib.hid ho
        have HB := Lib.hid hb
        have hwz := HB.out.size
        clear ho hb
        have HOUT : Hid ((∀ y ∈ D1, ltD xs y k) → (D1 ++ k :: D2).Perm (List.range (k + 1)) ∧ (D1 ++ k :: D2).Pairwise (ltD xs)) := Lib.hid (fun h => by
          obtain ⟨p1, p2⟩ := HP.out
          obtain ⟨q1, q2, q3⟩ := HD.out
          rw [← q2] at p1 p2
          refine ⟨?_, put_in p2 h q3⟩
          rw [List.range_succ]
          exact put_perm.trans ((List.Perm.cons k p1).trans (List.perm_append_singleton k _).symm))
        rcases List.eq_nil_or_concat D1 with hD1 | ⟨D1', y, hD1⟩
        · subst hD1
          have zj : (j : Int) = 0 := by have := HD.out.1; simp at this; omega
          go_wp2_with fail
          go_big_quiet (fail)
          have HO2 := Lib.hid (own_drw HO.out ⟨nq, rfl⟩)
          have HB2 := Lib.hid (below_drw HB.out ⟨nq, rfl⟩)
          go_wp2
          go_roundw
          case rel => exact ⟨k + 1, k :: D2, by omega, by go_num, Lib.hid (HOUT.out (fun y hy => by cases hy)), HO2.out, HB2.out⟩
          case measure => simp [intOf]; omega
        · rw [List.concat_eq_append] at hD1
          subst hD1
          have HJ2 : Hid (∃ jp, j = jp + 1 ∧ jp = D1'.length) := Lib.hid (by
            have x4 := HD.out.1
            rw [List.length_append, List.length_singleton] at x4
            exact ⟨D1'.length, by omega, rfl⟩)
          obtain ⟨jp, hj1, hj2⟩ := HJ2.out
          clear HJ2
          have HJ := Lib.hid (And.intro hj1 hj2)
          have zjp : (j : Int) = (jp : Int) + 1 := by omega
          have hja : decide ((jp : Int) + 1 > 0) = true := decide_eq_true (by omega)
          have hja' : (0 : Int) < (jp : Int) + 1 := by omega
          have hjn : jp + 1 ≤ k := by omega
          clear hj1 hj2
          have hyk : y < k := by
            have h := HP.out.1
            rw [← HD.out.2.1] at h
            exact List.mem_range.1 (h.mem_iff.1 (by simp))
          have hyn : y < n := by omega
          obtain ⟨i1, hi1⟩ : ∃ q, q = jp + 1 := ⟨_, rfl⟩
          have ea1 : ((jp : Int) + 1).toNat = i1 := by omega
          have pa1 : (0 : Int) ≤ (jp : Int) + 1 := by omega
          have ba1 : (jp : Int) + 1 < (k : Int) + 1 := by omega
          have ba3 : (jp : Int) < (k : Int) + 1 := by omega
          have ra1 : IntKind.i64.wrap ((jp : Int) + 1) = (jp : Int) + 1 := by rw [IntKind.wrap_i64]; omega
          have ra2 : IntKind.i64.wrap ((jp : Int)) = (jp : Int) := by rw [IntKind.wrap_i64]; omega
          have HI1 := Lib.hid hi1
          have hik : i1 < k + 1 := by omega
          clear hi1
          have hrow : ((D1' ++ [y] ++ k :: D2).map (fun i : Nat => Value.int .i64 (i : Int))) = D1'.map (fun i : Nat => Value.int .i64 (i : Int)) ++ Value.int .i64 (y : Int) :: Value.int .i64 (k : Int) :: D2.map (fun i : Nat => Value.int .i64 (i : Int)) := by simp
          have ho := HO.out
          rw [hrow] at ho
          have HO1 := Lib.hid ho
          have HL : Hid (jp = (D1'.map (fun i : Nat => Value.int .i64 (i : Int))).length ∧ i1 = (D1'.map (fun i : Nat => Value.int .i64 (i : Int))).length + 1) := Lib.hid (by have := HJ.out.2; have := HI1.out; rw [List.length_map]; omega)
          clear ho hrow HO
          obtain ⟨ad, rfl, _, hck⟩ := ((Hr.out.below HB.out).more hwz).at_ (k := k) (by rw [List.length_map, Hn.out]; exact hlt)
          obtain ⟨ad', had', _, hcy⟩ := ((Hr.out.below HB.out).more hwz).at_ (k := y) (by rw [List.length_map, Hn.out]; exact hyn)
          obtain rfl : ad' = ad := (Option.some.inj had').symm
          rw [List.getElem_map] at hck hcy
          obtain ⟨u, hu⟩ : ∃ u, u = xs[k]'(by rw [Hn.out]; exact hlt) := ⟨_, rfl⟩
          obtain ⟨v, hv⟩ : ∃ v, v = xs[y]'(by rw [Hn.out]; exact hyn) := ⟨_, rfl⟩
          have hfu : finB u = true := by rw [hu]; exact HF.out _ (List.getElem_mem _)
          have hfv : finB v = true := by rw [hv]; exact HF.out _ (List.getElem_mem _)
          have HKU : Hid (keyAt xs k = keyF u ∧ keyAt xs y = keyF v) := Lib.hid (by
            unfold keyAt
            rw [List.getD_eq_getElem?_getD, List.getElem?_eq_getElem (by rw [Hn.out]; exact hlt), List.getD_eq_getElem?_getD, List.getElem?_eq_getElem (by rw [Hn.out]; exact hyn), hu, hv]
            exact ⟨rfl, rfl⟩)
          rw [← hu] at hck
          rw [← hv] at hcy
          have hgt := cmpN_gt hfu hfv
          have c1 : wr.cell? ⟨g, i1, none⟩ = some (.int .i64 (k : Int)) := by
            rw [HO1.out.cellAt i1 (by omega), show D1'.map (fun i : Nat => Value.int .i64 (i : Int)) ++ Value.int .i64 (y : Int) :: Value.int .i64 (k : Int) :: D2.map (fun i : Nat => Value.int .i64 (i : Int)) = (D1'.map (fun i : Nat => Value.int .i64 (i : Int)) ++ [Value.int .i64 (y : Int)]) ++ Value.int .i64 (k : Int) :: D2.map (fun i : Nat => Value.int .i64 (i : Int)) by simp]
            exact get_mid (by rw [List.length_append]; exact HL.out.2)
          have c2 : wr.cell? ⟨g, jp, none⟩ = some (.int .i64 (y : Int)) := by
            rw [HO1.out.cellAt jp (by omega)]
            exact get_mid HL.out.1
          have hrdl : Hid (∃ a : Nat, True) := Lib.hid ⟨0, trivial⟩
          clear hrdl hu hv hfu hfv had'
          by_cases hkey : keyF v < keyF u
          · rw [decide_eq_true hkey] at hgt
            have HLT : Hid (ltD xs k y) := Lib.hid (by unfold ltD; rw [HKU.out.1, HKU.out.2]; exact .inl hkey)
            clear hkey
            go_wp2_with fail
            go_big_quiet (fail)
            have HO2 := Lib.hid (own_drw HO1.out ⟨nq, rfl⟩)
            have HB2 := Lib.hid (below_drw HB.out ⟨nq, rfl⟩)
            clear c1 c2 hck hcy hgt HO1 HB
            generalize wr.drewN nq = w2 at HO2 HB2 ⊢
            have c1 : w2.cell? ⟨g, i1, none⟩ = some (.int .i64 (k : Int)) := by
              rw [HO2.out.cellAt i1 (by omega), show D1'.map (fun i : Nat => Value.int .i64 (i : Int)) ++ Value.int .i64 (y : Int) :: Value.int .i64 (k : Int) :: D2.map (fun i : Nat => Value.int .i64 (i : Int)) = (D1'.map (fun i : Nat => Value.int .i64 (i : Int)) ++ [Value.int .i64 (y : Int)]) ++ Value.int .i64 (k : Int) :: D2.map (fun i : Nat => Value.int .i64 (i : Int)) by simp]
              exact get_mid (by rw [List.length_append]; exact HL.out.2)
            have c2 : w2.cell? ⟨g, jp, none⟩ = some (.int .i64 (y : Int)) := by
              rw [HO2.out.cellAt jp (by omega)]
              exact get_mid HL.out.1
            have f1 := HO2.out.frozenAt i1
            have hs := (HO2.out.stored i1 (.int .i64 (y : Int))).1
            have HS1 := Lib.hid hs
            have c3 : ∃ u, (w2.setCell ⟨g, i1, none⟩ (.int .i64 (y : Int))).cell? ⟨g, jp, none⟩ = some u := by
              rw [HS1.out.cellAt jp (by omega), List.getElem?_set]
              split
              · rename_i he
                split
                · exact ⟨_, rfl⟩
                · rename_i h1
                  refine absurd ?_ h1
                  rw [List.length_append, List.length_cons, List.length_cons]
                  have := HL.out.2
                  omega
              · exact ⟨_, get_mid HL.out.1⟩
            obtain ⟨u3, c3⟩ := c3
            have f3 := HS1.out.frozenAt jp
            have hs2 := (HS1.out.stored jp (.int .i64 (k : Int))).1
            rw [set_pair HL.out.1 HL.out.2] at hs2
            have HS2 := Lib.hid hs2
            have HB3 := Lib.hid ((HB2.out.setCell (p := ⟨g, i1, none⟩) HGB.out (.int .i64 (y : Int))).setCell (p := ⟨g, jp, none⟩) HGB.out (.int .i64 (k : Int)))
            clear hs hs2
            go_wp2
            go_roundw
            case rel =>
              obtain ⟨x1, x2, x3⟩ := HD.out
              exact ⟨jp, D1', y :: D2, by first | rfl | go_num | (congr 1; omega), by omega, Lib.hid ⟨HJ.out.2, by rw [← x2]; simp, fun z hz => by rcases List.mem_cons.1 hz with rfl | hz; exact HLT.out; exact x3 z hz⟩, by have h := HS2.out; simpa using h, HB3.out⟩
            case measure => simp [intOf]; omega
          · rw [decide_eq_false hkey] at hgt
            have HLT : Hid (ltD xs y k) := Lib.hid (by unfold ltD; rw [HKU.out.1, HKU.out.2]; omega)
            clear hkey
            go_wp2_with fail
            go_big_quiet (fail)
            have HO2 := Lib.hid (own_drw HO1.out ⟨nq, rfl⟩)
            have HB2 := Lib.hid (below_drw HB.out ⟨nq, rfl⟩)
            clear c1 c2 hck hcy hgt HO1 HB
            generalize wr.drewN nq = w2 at HO2 HB2 ⊢
            go_wp2
            go_roundw
            case rel =>
              have HPP := HOUT.out (put_last (ltD_tr xs) (by rw [HD.out.2.1]; exact HP.out.2) HLT.out)
              exact ⟨k + 1, D1' ++ [y] ++ k :: D2, by omega, by go_num, Lib.hid HPP, by have h := HO2.out; simpa using h, HB2.out⟩
            case measure => simp [intOf]; omega
    · obtain rfl : n = k := by omega
      have HE : Hid (rankL xs = ls) := Lib.hid (by unfold rankL; rw [Hn.out]; exact sortedOf_eq (ltD_as xs) HP.out.1 HP.out.2)
      go_wp2
      go_ret
      rw [HE.out]
      exact ⟨⟨_, _, rfl, HV.out⟩, HB.out⟩
set_option maxHeartbeats 2000000 in
set_option maxRecDepth 100000 in
theorem specRankOf_any (A : Option Addr) (n c : Nat) (xs : List Nat) (w : World) (hn : xs.length = n) (hm : n ≤ 1048576) (hr : Rd w w.heap.size A (xs.map (Value.float .f32))) :
    Calls Try.prog 37 #[.slice A n c] w fun e w' => GivesI w.heap.size (rankR xs) (rankOk xs) e w' ∧ Below w.heap.size w w' := by
  have cl := l06List_any A n c xs w hn hm hr
  cases hl : listB xs
  · rw [hl] at cl
    have HC := Lib.hid cl
    have HR : Hid (rankR xs = [] ∧ rankOk xs = false) := Lib.hid (by unfold rankR rankOk; rw [hl]; exact ⟨rfl, rfl⟩)
    clear cl hl hr hn
    go_enter Try.func37, Try.ntmps37
    go_wp2_with fail
    refine HC.out.mono ?_
    rintro e w1 ⟨rfl, m, rfl⟩
    go_wp2
    go_ret2
    rw [HR.out.1, HR.out.2]
    exact ⟨⟨none, 0, rfl, ⟨rfl, .inl ⟨rfl, rfl⟩⟩⟩, below_drewN (Below.refl _ _) _⟩
  · obtain ⟨hn256, hfin⟩ := listB_len hl
    rw [hl] at cl
    have HC := Lib.hid cl
    have HR : Hid (rankR xs = (rankL xs).map (fun i : Nat => (i : Int)) ∧ rankOk xs = true) := Lib.hid (by unfold rankR rankOk; rw [hl]; exact ⟨rfl, rfl⟩)
    have HK := Lib.hid (fun (m : Nat) => l06Rank_any A n c xs (w.drewN m) hfin hn (by omega) hr)
    clear cl hl hr hn hfin hn256
    go_enter Try.func37, Try.ntmps37
    go_wp2_with fail
    refine HC.out.mono ?_
    rintro e w1 ⟨rfl, m, rfl⟩
    go_wp2_with fail
    refine (HK.out _).mono ?_
    rintro e w2 ⟨⟨A', c', rfl, ho⟩, hb⟩
    have HB := Lib.hid (bthen (below_drewN (Below.refl w.heap.size w) m) hb)
    have HLL : Hid (((rankL xs).map (fun i : Nat => (i : Int))).length = n) := Lib.hid (by have h := ho.1; rw [List.length_map] at h ⊢; omega)
    have HO : Hid (w2.ownsRow w.heap.size 2 1 (.slice A' n c') n (((rankL xs).map (fun i : Nat => (i : Int))).map (Value.int .i64))) := Lib.hid (by rw [List.map_map]; exact ho)
    clear ho hb
    go_wp2
    go_ret2
    rw [HR.out.1, HR.out.2]
    exact ⟨⟨A', c', by rw [HLL.out]; rfl, by rw [HLL.out]; exact HO.out⟩, HB.out⟩
theorem sortedOf_len (lt : Nat → Nat → Prop) (ts : List Nat) : (sortedOf lt ts).length ≤ ts.length := by
  unfold sortedOf
  split
  · rename_i h
    exact Nat.le_of_eq (Classical.choose_spec h).1.length_eq
  · simp
theorem rankR_len (xs : List Nat) (h : xs.length ≤ 1048576) : (rankR xs).length ≤ 1048576 := by
  unfold rankR
  split
  · rw [List.length_map]
    have := sortedOf_len (ltD xs) (List.range xs.length)
    rw [List.length_range] at this
    unfold rankL
    omega
  · simp
end Go.Proofs.Ytcpimcjmckljfaa
