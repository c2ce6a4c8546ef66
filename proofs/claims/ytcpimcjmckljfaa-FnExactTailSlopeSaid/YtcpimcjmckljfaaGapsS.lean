/- GapsOf, the reference's way. -/
import Derived.Test.YtcpimcjmckljfaaCloneF
import Derived.Test.YtcpimcjmckljfaaRankS
namespace Go.Proofs.Ytcpimcjmckljfaa
open Ieee Go.RowKit
set_option maxHeartbeats 1000000 in
theorem l02List_any (A : Option Addr) (n c : Nat) (ls : List Nat) (w : World) (hn : ls.length = n) (hm : n ≤ 1048576) (hr : Rd w w.heap.size A (ls.map (Value.float .f32))) :
    Calls Try.prog 79 #[.slice A n c] w fun e w' => e = .returned (.tuple #[if finL ls = true then .slice A n c else .slice none 0 0, .bool (finL ls)]) ∧ ∃ m, w' = w.drewN m := by
  have c91 := l02Finite_any A n c ls w hn (by omega) hr
  cases hl : finL ls
  · rw [hl] at c91
    have HC := Lib.hid c91
    clear c91 hl hr hn
    go_enter Try.func79, Try.ntmps79
    go_wp2_with fail
    refine HC.out.mono ?_
    rintro e w' ⟨rfl, m, rfl⟩
    go_wp2
    go_ret2
    exact ⟨rfl, _, rfl⟩
  · rw [hl] at c91
    have HC := Lib.hid c91
    clear c91 hl hr hn
    go_enter Try.func79, Try.ntmps79
    go_wp2_with fail
    refine HC.out.mono ?_
    rintro e w' ⟨rfl, m, rfl⟩
    go_wp2
    go_ret2
    exact ⟨rfl, _, rfl⟩
theorem range_drop {n k : Nat} (h : k < n) : (List.range n).drop k = k :: (List.range n).drop (k + 1) := by
  rw [List.drop_eq_getElem_cons (by simpa using h), List.getElem_range]
set_option maxHeartbeats 16000000 in
set_option maxRecDepth 100000 in
theorem specGapsOf_any (ad : Addr) (n c : Nat) (xs : List Nat) (w : World) (hn : xs.length = n) (hm : n ≤ 1048576) (hr : Rd w w.heap.size (some ad) (xs.map (Value.float .f32))) :
    Calls Try.prog 41 #[.slice (some ad) n c] w fun e w' => GivesF w.heap.size (gapsR xs) (gapsOk xs) e w' ∧ Below w.heap.size w w' := by
  have cl := l06List_any (some ad) n c xs w hn hm hr
  cases hl : listB xs
  · rw [hl] at cl
    have HC := Lib.hid cl
    have HR : Hid (gapsR xs = [] ∧ gapsOk xs = false) := Lib.hid (by unfold gapsR gapsOk; rw [hl]; exact ⟨rfl, rfl⟩)
    clear cl hl hr hn
    go_enter Try.func41, Try.ntmps41
    go_wp2_with fail
    refine HC.out.mono ?_
    rintro e w1 ⟨rfl, m, rfl⟩
    go_wp2
    go_ret2
    rw [HR.out.1, HR.out.2]
    exact ⟨⟨none, 0, rfl, ⟨rfl, .inl ⟨rfl, rfl⟩⟩⟩, below_drewN (Below.refl _ _) _⟩
  · obtain ⟨hn256, hfin⟩ := listB_len hl
    rw [hn] at hn256
    rw [hl] at cl
    have HC := Lib.hid cl
    obtain ⟨i0, hi, hz0, hz1, hz2⟩ := info_parts Try.info23
    have HR : Hid (gapsOk xs = finL (gapsN (srtA xs))) := Lib.hid (by unfold gapsOk; rw [hl]; rfl)
    have HF := Lib.hid (srt_fin hfin)
    have HFX := Lib.hid (fin_get (finL_mem hfin))
    have Hn := Lib.hid hn
    by_cases h0 : 0 < n
    · obtain ⟨ad', had', had, hcl⟩ := hr.some (by rw [List.length_map]; omega)
      obtain rfl : ad' = ad := (Option.some.inj had').symm
      have HCC : Hid (∀ m j u, (xs.map (Value.float .f32))[j]? = some u → ((w.drewN m).alloc (.cells #[] 23)).cell? (ad'.add j) = some u) := Lib.hid fun m j u hu => by
        rw [World.cell?_alloc_lt _ _ _ (by rw [add_block]; exact had)]; exact hcl j u hu
      have hn1 : (xs.map (Value.float .f32)).length = n * 1 := by simp [hn]
      have HL := Lib.hid hn1
      have HVM := Lib.hid (vals_map xs)
      clear cl hl hr hn hfin hn1 hcl had had'
      go_enter Try.func41, Try.ntmps41
      go_wp2_with fail
      refine HC.out.mono ?_
      rintro e w1 ⟨rfl, m1, rfl⟩
      obtain ⟨w1, hw1⟩ : ∃ x, x = w.drewN m1 := ⟨_, rfl⟩
      have HB1 : Hid (Below w.heap.size w w1) := Lib.hid (by rw [hw1]; exact below_drewN (Below.refl _ _) _)
      have HC1 : Hid (∀ j u, (xs.map (Value.float .f32))[j]? = some u → (w1.alloc (.cells #[] 23)).cell? (ad'.add j) = some u) := Lib.hid (by rw [hw1]; exact HCC.out m1)
      have HN : Hid ((w1.alloc (.cells #[] 23)).ownsRow w.heap.size 23 1 (.slice (some ⟨w1.heap.size, 0, none⟩) 0 0) 0 []) := Lib.hid (own_base (World.ownsRow_made w1 #[] 0 (Nat.le_refl _) (Nat.zero_le _) rfl) HB1.out.size)
      have hz1_ := HB1.out.size
      rw [← hw1]
      clear hw1 HCC
      go_wp2_with (at_builtin; go_must (refine wpList_append_lies _ rfl (.tmp 13) (.tmp 14) 31 rfl w.heap.size 23 i0 (.float .f32 0) 1 4 Try.underlying31 hi hz0 hz1 hz2 rfl (by decide) _ _ _ rfl HN.out ad' n c (xs.map (Value.float .f32)) rfl HL.out HC1.out (one_floats _) h0 ?_ ?_ ?_ _ rfl ?_))
      · unfold maxLen; omega
      · omega
      · simp; omega
      intro g cp w2 ho hg hat _
      have HO : Hid (w2.ownsRow w.heap.size 23 1 (.slice (some ⟨g, 0, none⟩) n cp) n ((List.range n).map (fun i : Nat => Value.float .f32 (xs.getD i 0)))) := Lib.hid (by have h : w2.ownsRow w.heap.size 23 1 (.slice (some ⟨g, 0, none⟩) n cp) n (xs.map (Value.float .f32)) := (by simpa using ho); have e := HVM.out; rw [Hn.out] at e; rw [e]; exact h)
      have HB := Lib.hid ((HB1.out.trans ((below_new w1 (.cells #[] 23)).mono hz1_)).grown hg (by simp; omega) (fun k hk => (HN.out.lt k hk).1))
      have HGB : Hid (w.heap.size ≤ g) := Lib.hid (HO.out.lt g rfl).1
      clear ho hg hat HN HC1
      have hnn : (0 : Nat) + n = n := Nat.zero_add n
      go_wp2
      go_loopw [5] (fun i wr => ∃ (k : Nat) (ls : List Nat), 1 ≤ k ∧ k ≤ n ∧ i = .int .i64 k ∧ Hid (ls.Perm (List.range k) ∧ ls.Pairwise (ltA xs)) ∧ wr.ownsRow w.heap.size 23 1 (.slice (some ⟨g, 0, none⟩) n cp) n ((ls ++ (List.range n).drop k).map (fun i : Nat => Value.float .f32 (xs.getD i 0))) ∧ Below w.heap.size w wr) (fun i _ => n - (intOf i).toNat)
      case atStart => exact ⟨1, [0], Nat.le_refl _, h0, rfl, Lib.hid ⟨.refl _, List.pairwise_singleton _ _⟩, by have h := HO.out; rwa [show [0] ++ (List.range n).drop 1 = List.range n by have e := range_drop h0; simpa using e.symm], HB.out⟩
      case round =>
        clear HO HB
        obtain ⟨k, ls, hk1, hk, rfl, HP, ho, hb⟩ := hrel
        have HO := Lib.hid ho
        have HB := Lib.hid hb
        clear ho hb
        by_cases hlt : k < n
        · have hkz : (k : Int) < (n : Int) := by omega
          have HLL : Hid (ls.length = k) := Lib.hid (by rw [HP.out.1.length_eq]; simp)
          obtain ⟨rest, hrest⟩ : ∃ rest, rest = (List.range n).drop (k + 1) := ⟨_, rfl⟩
          have HRE := Lib.hid hrest
          have HO3 : Hid (wr.ownsRow w.heap.size 23 1 (.slice (some ⟨g, 0, none⟩) n cp) n ((ls ++ k :: ([] ++ rest)).map (fun i : Nat => Value.float .f32 (xs.getD i 0)))) := Lib.hid (by have h := HO.out; rw [range_drop hlt, ← hrest] at h; exact h)
          clear hrest HO
          go_wp2
          go_loopw [6] (fun vj wr => ∃ (j : Nat) (D1 D2 : List Nat), vj = .int .i64 j ∧ j ≤ k ∧ Hid (j = D1.length ∧ D1 ++ D2 = ls ∧ ∀ z ∈ D2, ltA xs k z) ∧ wr.ownsRow w.heap.size 23 1 (.slice (some ⟨g, 0, none⟩) n cp) n ((D1 ++ k :: (D2 ++ rest)).map (fun i : Nat => Value.float .f32 (xs.getD i 0))) ∧ Below w.heap.size w wr) (fun vj _ => (intOf vj).toNat)
          case atStart => exact ⟨k, ls, [], rfl, Nat.le_refl _, Lib.hid ⟨HLL.out.symm, by simp, fun z hz => by cases hz⟩, HO3.out, HB.out⟩
          case round =>
            clear HO3 HB
            obtain ⟨j, D1, D2, rfl, hjk, HD, ho, hb⟩ := hrel
            have HO := Lib.hid ho
            have HB := Lib.hid hb
            clear ho hb
            have HOUT : Hid ((∀ y ∈ D1, ltA xs y k) → (D1 ++ k :: D2).Perm (List.range (k + 1)) ∧ (D1 ++ k :: D2).Pairwise (ltA xs)) := Lib.hid (fun h => by
              obtain ⟨p1, p2⟩ := HP.out
              obtain ⟨q1, q2, q3⟩ := HD.out
              rw [← q2] at p1 p2
              refine ⟨?_, put_in p2 h q3⟩
              rw [List.range_succ]
              exact put_perm.trans ((List.Perm.cons k p1).trans (List.perm_append_singleton k _).symm))
            rcases List.eq_nil_or_concat D1 with hD1 | ⟨D1', y, hD1⟩
            · subst hD1
              have zj : (j : Int) = 0 := by have := HD.out.1; simp at this; omega
              go_wp2_with fail
              go_big_quiet (fail)
              have HO2 := Lib.hid (own_drw HO.out ⟨nq, rfl⟩)
              have HB2 := Lib.hid (below_drw HB.out ⟨nq, rfl⟩)
              go_wp2
              go_roundw
              case rel => exact ⟨k + 1, k :: D2, by omega, by omega, by go_num, Lib.hid (HOUT.out (fun y hy => by cases hy)), by have h := HO2.out; rw [HRE.out] at h; simpa using h, HB2.out⟩
              case measure => simp [intOf]; omega
            · rw [List.concat_eq_append] at hD1
              subst hD1
              have HJ2 : Hid (∃ jp, j = jp + 1 ∧ jp = D1'.length) := Lib.hid (by
                have x4 := HD.out.1
                rw [List.length_append, List.length_singleton] at x4
                exact ⟨D1'.length, by omega, rfl⟩)
              obtain ⟨jp, hj1, hj2⟩ := HJ2.out
              clear HJ2
              have HJ := Lib.hid (And.intro hj1 hj2)
              have zjp : (j : Int) = (jp : Int) + 1 := by omega
              have hja : decide ((jp : Int) + 1 > 0) = true := decide_eq_true (by omega)
              have hja' : (0 : Int) < (jp : Int) + 1 := by omega
              have hjn : jp + 1 ≤ k := by omega
              clear hj1 hj2
              have hyk : y < k := by
                have h := HP.out.1
                rw [← HD.out.2.1] at h
                exact List.mem_range.1 (h.mem_iff.1 (by simp))
              obtain ⟨i1, hi1⟩ : ∃ q, q = jp + 1 := ⟨_, rfl⟩
              have ea1 : ((jp : Int) + 1).toNat = i1 := by omega
              have pa1 : (0 : Int) ≤ (jp : Int) + 1 := by omega
              have ba1 : (jp : Int) + 1 < (n : Int) := by omega
              have ba3 : (jp : Int) < (n : Int) := by omega
              have ra1 : IntKind.i64.wrap ((jp : Int) + 1) = (jp : Int) + 1 := by rw [IntKind.wrap_i64]; omega
              have ra2 : IntKind.i64.wrap ((jp : Int)) = (jp : Int) := by rw [IntKind.wrap_i64]; omega
              have HI1 := Lib.hid hi1
              have hik : i1 < n := by omega
              clear hi1
              obtain ⟨u, hu⟩ : ∃ u, u = xs.getD k 0 := ⟨_, rfl⟩
              obtain ⟨v, hv⟩ : ∃ v, v = xs.getD y 0 := ⟨_, rfl⟩
              have hrow : ((D1' ++ [y] ++ k :: (D2 ++ rest)).map (fun i : Nat => Value.float .f32 (xs.getD i 0))) = D1'.map (fun i : Nat => Value.float .f32 (xs.getD i 0)) ++ Value.float .f32 v :: Value.float .f32 u :: (D2 ++ rest).map (fun i : Nat => Value.float .f32 (xs.getD i 0)) := by rw [hu, hv]; simp
              have ho := HO.out
              rw [hrow] at ho
              have HO1 := Lib.hid ho
              have HL2 : Hid (jp = (D1'.map (fun i : Nat => Value.float .f32 (xs.getD i 0))).length ∧ i1 = (D1'.map (fun i : Nat => Value.float .f32 (xs.getD i 0))).length + 1) := Lib.hid (by have := HJ.out.2; have := HI1.out; rw [List.length_map]; omega)
              have hlt2 := cmpN_lt' (HFX.out k) (HFX.out y)
              rw [← hu, ← hv] at hlt2
              have HKU : Hid (keyAt xs k = keyF u ∧ keyAt xs y = keyF v) := Lib.hid (by unfold keyAt; rw [hu, hv]; exact ⟨rfl, rfl⟩)
              have HUV := Lib.hid (And.intro hu hv)
              clear ho hrow HO hu hv
              have c1 : wr.cell? ⟨g, i1, none⟩ = some (.float .f32 u) := by
                rw [HO1.out.cellAt i1 (by omega), show D1'.map (fun i : Nat => Value.float .f32 (xs.getD i 0)) ++ Value.float .f32 v :: Value.float .f32 u :: (D2 ++ rest).map (fun i : Nat => Value.float .f32 (xs.getD i 0)) = (D1'.map (fun i : Nat => Value.float .f32 (xs.getD i 0)) ++ [Value.float .f32 v]) ++ Value.float .f32 u :: (D2 ++ rest).map (fun i : Nat => Value.float .f32 (xs.getD i 0)) by simp]
                exact get_mid (by rw [List.length_append]; exact HL2.out.2)
              have c2 : wr.cell? ⟨g, jp, none⟩ = some (.float .f32 v) := by
                rw [HO1.out.cellAt jp (by omega)]
                exact get_mid HL2.out.1
              by_cases hkey : keyF u < keyF v
              · rw [decide_eq_true hkey] at hlt2
                have HLT : Hid (ltA xs k y) := Lib.hid (by unfold ltA; rw [HKU.out.1, HKU.out.2]; exact .inl hkey)
                have hst := fun (a : Addr) (n : Nat) (m : Mode) (w : World) => run_store Try.prog w a (.float .f32 n) m rfl
                clear hkey
                go_wp2_with fail
                go_big_quiet (fail)
                have HO2 := Lib.hid (own_drw HO1.out ⟨nq, rfl⟩)
                have HB2 := Lib.hid (below_drw HB.out ⟨nq, rfl⟩)
                clear c1 c2 hlt2 HO1 HB
                generalize wr.drewN nq = w3 at HO2 HB2 ⊢
                have c1 : w3.cell? ⟨g, i1, none⟩ = some (.float .f32 u) := by
                  rw [HO2.out.cellAt i1 (by omega), show D1'.map (fun i : Nat => Value.float .f32 (xs.getD i 0)) ++ Value.float .f32 v :: Value.float .f32 u :: (D2 ++ rest).map (fun i : Nat => Value.float .f32 (xs.getD i 0)) = (D1'.map (fun i : Nat => Value.float .f32 (xs.getD i 0)) ++ [Value.float .f32 v]) ++ Value.float .f32 u :: (D2 ++ rest).map (fun i : Nat => Value.float .f32 (xs.getD i 0)) by simp]
                  exact get_mid (by rw [List.length_append]; exact HL2.out.2)
                have c2 : w3.cell? ⟨g, jp, none⟩ = some (.float .f32 v) := by
                  rw [HO2.out.cellAt jp (by omega)]
                  exact get_mid HL2.out.1
                have f1 := HO2.out.frozenAt i1
                have hs := (HO2.out.stored i1 (.float .f32 v)).1
                have HS1 := Lib.hid hs
                have c3 : ∃ u, (w3.setCell ⟨g, i1, none⟩ (.float .f32 v)).cell? ⟨g, jp, none⟩ = some u := by
                  rw [HS1.out.cellAt jp (by omega), List.getElem?_set]
                  split
                  · split
                    · exact ⟨_, rfl⟩
                    · rename_i h1
                      refine absurd ?_ h1
                      rw [List.length_append, List.length_cons, List.length_cons]
                      have := HL2.out.2
                      omega
                  · exact ⟨_, get_mid HL2.out.1⟩
                obtain ⟨u3, c3⟩ := c3
                have f3 := HS1.out.frozenAt jp
                have hs2 := (HS1.out.stored jp (.float .f32 u)).1
                rw [set_pair HL2.out.1 HL2.out.2] at hs2
                have HS2 := Lib.hid hs2
                have HB3 := Lib.hid ((HB2.out.setCell (p := ⟨g, i1, none⟩) HGB.out (.float .f32 v)).setCell (p := ⟨g, jp, none⟩) HGB.out (.float .f32 u))
                clear hs hs2
                go_wp2
                go_roundw
                case rel =>
                  obtain ⟨x1, x2, x3⟩ := HD.out
                  exact ⟨jp, D1', y :: D2, by first | rfl | go_num | (congr 1; omega), by omega, Lib.hid ⟨HJ.out.2, by rw [← x2]; simp, fun z hz => by rcases List.mem_cons.1 hz with rfl | hz; exact HLT.out; exact x3 z hz⟩, by have h := HS2.out; have e : ((D1' ++ k :: (y :: D2 ++ rest)).map (fun i : Nat => Value.float .f32 (xs.getD i 0))) = D1'.map (fun i : Nat => Value.float .f32 (xs.getD i 0)) ++ Value.float .f32 u :: Value.float .f32 v :: (D2 ++ rest).map (fun i : Nat => Value.float .f32 (xs.getD i 0)) := (by rw [HUV.out.1, HUV.out.2]; simp); rw [e]; exact h, HB3.out⟩
                case measure => simp [intOf]; omega
              · rw [decide_eq_false hkey] at hlt2
                have HLT : Hid (ltA xs y k) := Lib.hid (by unfold ltA; rw [HKU.out.1, HKU.out.2]; omega)
                clear hkey
                go_wp2_with fail
                go_big_quiet (fail)
                have HO2 := Lib.hid (own_drw HO1.out ⟨nq, rfl⟩)
                have HB2 := Lib.hid (below_drw HB.out ⟨nq, rfl⟩)
                clear c1 c2 hlt2 HO1 HB
                generalize wr.drewN nq = w3 at HO2 HB2 ⊢
                go_wp2
                go_roundw
                case rel =>
                  have HPP := HOUT.out (put_last (ltA_tr xs) (by rw [HD.out.2.1]; exact HP.out.2) HLT.out)
                  exact ⟨k + 1, D1' ++ [y] ++ k :: D2, by omega, by omega, by go_num, Lib.hid HPP, by have h := HO2.out; have e : ((D1' ++ [y] ++ k :: D2 ++ (List.range n).drop (k + 1)).map (fun i : Nat => Value.float .f32 (xs.getD i 0))) = D1'.map (fun i : Nat => Value.float .f32 (xs.getD i 0)) ++ Value.float .f32 v :: Value.float .f32 u :: (D2 ++ rest).map (fun i : Nat => Value.float .f32 (xs.getD i 0)) := (by rw [HUV.out.1, HUV.out.2, HRE.out]; simp); rw [e]; exact h, HB2.out⟩
                case measure => simp [intOf]; omega
        · obtain rfl : n = k := by omega
          obtain ⟨sl, hsl⟩ : ∃ sl, sl = srtA xs := ⟨_, rfl⟩
          have HSS : Hid (sl = ls.map (fun i => xs.getD i 0)) := Lib.hid (by rw [hsl]; unfold srtA; rw [Hn.out, sortedOf_eq (ltA_as xs) HP.out.1 HP.out.2])
          have HSL : Hid (sl.length = n) := Lib.hid (by rw [HSS.out, List.length_map, HP.out.1.length_eq]; simp)
          have hro : wr.ownsRow w.heap.size 23 1 (.slice (some ⟨g, 0, none⟩) n cp) n (sl.map (Value.float .f32)) := by
            have h := HO.out
            rw [List.drop_of_length_le (by simp), List.append_nil] at h
            rw [HSS.out, List.map_map]
            exact h
          have HRS := Lib.hid (Rd.own hro)
          have HGR : Hid (gapsR xs = if gapsOk xs = true then gapsN sl else []) := Lib.hid (by unfold gapsR; rw [hsl])
          rw [← hsl] at HF HR
          have hz3 := HB.out.size
          have HN1 := Lib.hid (own_nilF wr 23 wr.heap.size (Nat.le_refl _))
          have HB0 := Lib.hid (below_new wr (.cells #[] 23))
          have HB3 := Lib.hid HB.out
          clear hsl hro HO HB
          obtain ⟨w3, hw3⟩ : ∃ x, x = wr := ⟨_, rfl⟩
          rw [← hw3] at HRS HN1 HB0 HB3 hz3 ⊢
          clear hw3
          go_wp2
          go_loopw [8, 9] (fun v i wr => ∃ (k : Nat) (ls : List Nat), 1 ≤ k ∧ k ≤ n ∧ i = .int .i64 k ∧ ls.length + 1 ≤ 257 ∧ Hid (ls = (List.range (k - 1)).map (fun i => fop .sub .f32 (sl.getD (i + 1) 0) (sl.getD i 0))) ∧ wr.ownsRow w3.heap.size 23 1 v ls.length (ls.map (Value.float .f32)) ∧ Below w3.heap.size w3 wr) (fun _ i _ => n - (intOf i).toNat)
          case atStart => exact ⟨1, [], Nat.le_refl _, h0, rfl, by decide, Lib.hid rfl, HN1.out, HB0.out⟩
          case round =>
            obtain ⟨k, ls2, hk1, hk, rfl, hll, HL3, hv, hb⟩ := hrel
            have HV := Lib.hid hv
            have HB := Lib.hid hb
            have hwz := HB.out.size
            clear hv hb
            obtain ⟨Av, cv, rfl, hrv⟩ := shapeOf HV.out
            by_cases hlt : k < n
            · have hkz : (k : Int) < (n : Int) := by omega
              have hka : k < sl.length := by rw [HSL.out]; exact hlt
              obtain ⟨kp, zk, hkp⟩ : ∃ kp : Nat, (k : Int) = (kp : Int) + 1 ∧ kp + 1 = k := ⟨k - 1, by omega, by omega⟩
              have HKP := Lib.hid hkp
              have hkpl : kp < sl.length := by omega
              obtain ⟨ad2, had2, _, hck⟩ := ((HRS.out.below HB.out).more hwz).at_ (k := k) (by rw [List.length_map]; exact hka)
              obtain ⟨ad3, had3, _, hcp⟩ := ((HRS.out.below HB.out).more hwz).at_ (k := kp) (by rw [List.length_map]; exact hkpl)
              rw [List.getElem_map] at hck hcp
              cases had2
              cases had3
              have HST : Hid ((List.range (k + 1 - 1)).map (fun i => fop .sub .f32 (sl.getD (i + 1) 0) (sl.getD i 0)) = (List.range (k - 1)).map (fun i => fop .sub .f32 (sl.getD (i + 1) 0) (sl.getD i 0)) ++ [fop .sub .f32 sl[k] sl[kp]]) := Lib.hid (by
                have h := gap_step (sl := sl) (k := kp) (by omega)
                subst hkp
                exact h)
              have hfx := HF.out _ (List.getElem_mem hka)
              have hfy := HF.out _ (List.getElem_mem hkpl)
              obtain ⟨x, hx⟩ : ∃ x, x = sl[k] := ⟨_, rfl⟩
              obtain ⟨y, hy⟩ : ∃ y, y = sl[kp] := ⟨_, rfl⟩
              rw [← hx] at hck HST hfx
              rw [← hy] at hcp HST hfy
              have p1 := run_num (P := Try.prog) (sub_num hfx (fin_num hfy)).1
              obtain ⟨d, hd⟩ : ∃ d, d = fop .sub .f32 x y := ⟨_, rfl⟩
              rw [← hd] at p1 HST
              obtain ⟨i1, hi1⟩ : ∃ q, q = kp + 1 := ⟨_, rfl⟩
              have hck2 : wr.cell? ⟨g, i1, none⟩ = some (.float .f32 x) := by
                rw [hi1, hkp]
                have e : (⟨g, 0, none⟩ : Addr).add k = ⟨g, k, none⟩ := add_zero_off g k
                rwa [e] at hck
              have hcp2 : wr.cell? ⟨g, kp, none⟩ = some (.float .f32 y) := by
                have e : (⟨g, 0, none⟩ : Addr).add kp = ⟨g, kp, none⟩ := add_zero_off g kp
                rwa [e] at hcp
              have ea1 : ((kp : Int) + 1).toNat = i1 := by omega
              have pa1 : (0 : Int) ≤ (kp : Int) + 1 := by omega
              have ba1 : (kp : Int) + 1 < (n : Int) := by omega
              have ba2 : (kp : Int) < (n : Int) := by omega
              have ra1 : IntKind.i64.wrap ((kp : Int) + 1) = (kp : Int) + 1 := by rw [IntKind.wrap_i64]; omega
              have ra2 : IntKind.i64.wrap ((kp : Int)) = (kp : Int) := by rw [IntKind.wrap_i64]; omega
              clear hx hy hd hi1 hrv hck hcp hkp
              go_wp2_with fail
              have hl256 : ls2.length ≤ 256 := by omega
              go_region_law (refine step_append_lies _ rfl (.tmp 63) (.tmp 74) 31 rfl w3.heap.size 23 i0 (.float .f32 0) 1 4 Try.underlying31 hi hz0 hz1 hz2 rfl (by decide) _ ls2.length _ (by simp [Act.eval]) (own_drw (HV.out.alloc _) ⟨1, rfl⟩) ⟨wr.heap.size, 0, none⟩ 1 1 [.float .f32 d] (by simp [Act.eval]) rfl (fun j u hu => newOne wr _ 23 j u hu) (oneF _ _) (by decide) (by unfold maxLen; omega) (by omega) (by simp; omega) _ rfl ?_; intro g4 c4 w7 hown' hgrow hat' _)
              all_goals
                have HV7 := Lib.hid (own_appF hown')
                have HB7 := Lib.hid ((below_drewN (HB.out.alloc hwz (.cells #[.float .f32 d] 23)) 1).grown hgrow (by simp; omega) (fun q hq => (HV.out.lt q hq).1))
                have HLN : Hid (ls2.length = k - 1) := Lib.hid (by rw [HL3.out]; simp)
                clear hown' hgrow hat' p1 hck2 hcp2
                go_wp2
                go_roundw
                case rel =>
                  have h1 := HKP.out
                  have h2 := HLN.out
                  exact ⟨k + 1, ls2 ++ [d], by omega, by omega, by first | go_num | (congr 1; omega), by rw [List.length_append]; simp; omega, Lib.hid (by rw [HST.out, HL3.out]), by have h := HV7.out; simpa using h, HB7.out⟩
                case measure => have h1 := HKP.out; simp [intOf]; omega
            · obtain rfl : n = k := by omega
              have HG : Hid (gapsN sl = ls2) := Lib.hid (by rw [HL3.out]; unfold gapsN; rw [HSL.out])
              have HFN := Lib.hid (l02List_any Av ls2.length cv ls2 wr rfl (by omega) hrv)
              have cf := HFN.out
              cases hfl : finL ls2
              · rw [hfl] at cf
                have HCF := Lib.hid cf
                have HR2 : Hid (gapsR xs = [] ∧ gapsOk xs = false) := Lib.hid (by
                  have h : gapsOk xs = false := by rw [HR.out, HG.out]; exact hfl
                  rw [HGR.out, h]
                  exact ⟨rfl, rfl⟩)
                clear cf hfl hrv HFN
                go_wp2_with fail
                refine HCF.out.mono ?_
                rintro e w9 ⟨rfl, m9, rfl⟩
                go_wp2
                go_ret2
                rw [HR2.out.1, HR2.out.2]
                exact ⟨⟨none, 0, rfl, ⟨rfl, .inl ⟨rfl, rfl⟩⟩⟩, below_drewN ((HB3.out.trans (HB.out.mono hz3))) _⟩
              · rw [hfl] at cf
                have HCF := Lib.hid cf
                have HR2 : Hid (gapsR xs = ls2 ∧ gapsOk xs = true) := Lib.hid (by
                  have h : gapsOk xs = true := by rw [HR.out, HG.out]; exact hfl
                  rw [HGR.out, h]
                  exact ⟨HG.out, rfl⟩)
                clear cf hfl hrv HFN
                go_wp2_with fail
                refine HCF.out.mono ?_
                rintro e w9 ⟨rfl, m9, rfl⟩
                have HV9 := Lib.hid (own_base HV.out hz3)
                go_wp2
                go_ret2
                rw [HR2.out.1, HR2.out.2]
                exact ⟨⟨_, _, rfl, HV9.out⟩, below_drewN ((HB3.out.trans (HB.out.mono hz3))) _⟩
    · obtain rfl : n = 0 := by omega
      obtain rfl : xs = [] := List.eq_nil_of_length_eq_zero hn
      have HRR : Hid (gapsR [] = [] ∧ gapsOk [] = true) := Lib.hid (by
        have h : gapsOk [] = true := by rw [HR.out]; unfold gapsN srtA; have h2 := sortedOf_len (ltA []) (List.range ([] : List Nat).length); have h3 : sortedOf (ltA []) (List.range ([] : List Nat).length) = [] := List.eq_nil_of_length_eq_zero (by simpa using h2); rw [h3]; rfl
        unfold gapsR
        rw [h]
        refine ⟨?_, rfl⟩
        rw [if_pos rfl]
        unfold gapsN srtA
        have h2 := sortedOf_len (ltA []) (List.range ([] : List Nat).length)
        have h3 : sortedOf (ltA []) (List.range ([] : List Nat).length) = [] := List.eq_nil_of_length_eq_zero (by simpa using h2)
        rw [h3]
        rfl)
      clear cl hl hr hn hfin
      go_enter Try.func41, Try.ntmps41
      go_wp2_with fail
      refine HC.out.mono ?_
      rintro e w1 ⟨rfl, m1, rfl⟩
      obtain ⟨w1, hw1⟩ : ∃ x, x = w.drewN m1 := ⟨_, rfl⟩
      have HB1 : Hid (Below w.heap.size w w1) := Lib.hid (by rw [hw1]; exact below_drewN (Below.refl _ _) _)
      have HN : Hid ((w1.alloc (.cells #[] 23)).ownsRow w.heap.size 23 1 (.slice (some ⟨w1.heap.size, 0, none⟩) 0 0) 0 []) := Lib.hid (own_base (World.ownsRow_made w1 #[] 0 (Nat.le_refl _) (Nat.zero_le _) rfl) HB1.out.size)
      have hz1_ := HB1.out.size
      rw [← hw1]
      clear hw1
      go_wp2_with (at_builtin; go_must (refine wpList_append_own_at _ rfl (.tmp 13) (.tmp 14) 31 rfl w.heap.size 23 i0 (.float .f32 0) 1 4 Try.underlying31 hi hz0 hz1 hz2 rfl (by decide) _ _ _ rfl HN.out ad 0 c [] rfl rfl (fun j u hu => by simp at hu) (fun u hu => by cases hu) ?_ ?_ ?_ ?_))
      · unfold maxLen; omega
      · omega
      · simp; omega
      intro v' w7 hown' hgrow _ hat'
      have HV7 := Lib.hid hown'
      have HB := Lib.hid ((HB1.out.trans ((below_new w1 (.cells #[] 23)).mono hz1_)).grown hgrow (by simp; omega) (fun k hk => (HN.out.lt k hk).1))
      obtain ⟨A7, c7, rfl, _⟩ := shapeOf HV7.out
      clear hown' hgrow hat'
      go_wp2
      refine wp_loop_rounds 1 ?_
      rw [rounds_succ]
      go_wp2
      refine wp_loop_rounds 1 ?_
      rw [rounds_succ]
      have hz7 := HB.out.size
      have HL7 := Lib.hid (fun (c : Nat) => l02List_any (some ⟨w7.heap.size, 0, none⟩) 0 c [] (w7.alloc (.cells #[] 23)) rfl (by decide) Rd.nil)
      go_wp2_with fail
      refine (HL7.out _).mono ?_
      rintro e w9 ⟨rfl, m9, rfl⟩
      go_wp2
      go_ret2
      rw [HRR.out.1, HRR.out.2]
      exact ⟨⟨some ⟨w7.heap.size, 0, none⟩, 0, rfl, own_base (own_nilF w7 23 w7.heap.size (Nat.le_refl _)) hz7⟩, below_drewN (HB.out.trans ((below_new w7 (.cells #[] 23)).mono hz7)) _⟩
end Go.Proofs.Ytcpimcjmckljfaa
