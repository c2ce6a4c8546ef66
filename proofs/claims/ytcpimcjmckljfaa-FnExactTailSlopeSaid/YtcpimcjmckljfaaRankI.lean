/- RankOf, the program's way. -/
import Derived.Test.YtcpimcjmckljfaaSortUse
namespace Go.Proofs.Ytcpimcjmckljfaa
open Go.Shelf Go.RowKit Go.Lib Go.Sort
noncomputable def rankL (xs : List Nat) : List Nat := sortedOf (ltD xs) (List.range xs.length)
def rankOk (xs : List Nat) : Bool := listB xs
noncomputable def rankR (xs : List Nat) : List Int := if rankOk xs = true then (rankL xs).map (fun i : Nat => (i : Int)) else []
set_option maxHeartbeats 2000000 in
set_option maxRecDepth 100000 in
theorem rankFn_any (A : Option Addr) (n c p : Nat) (xs : List Nat) (i j : Nat) (W : World) (hn : xs.length = n) (hi : i < n) (hj : j < n) (hp : W.cell? ⟨p, 0, none⟩ = some (.slice A n c)) (_hm : n ≤ 1048576) (hr : Rd W W.heap.size A (xs.map (Value.float .f32))) :
    Calls Try.prog 77 #[.int .i64 i, .int .i64 j, .pointer (some ⟨p, 0, none⟩)] W fun e w' => e = .returned (.int .i64 (cmpN (xs.getD j 0) (xs.getD i 0))) ∧ ∃ q, w' = W.drewN q := by
  obtain ⟨ad, rfl, _, hci⟩ := hr.at_ (k := i) (by rw [List.length_map]; omega)
  obtain ⟨ad', had', _, hcj⟩ := hr.at_ (k := j) (by rw [List.length_map]; omega)
  obtain rfl : ad' = ad := (Option.some.inj had').symm
  rw [List.getElem_map] at hci hcj
  have hgi : xs[i]'(by omega) = xs.getD i 0 := by rw [List.getD_eq_getElem?_getD, List.getElem?_eq_getElem (by omega)]; rfl
  have hgj : xs[j]'(by omega) = xs.getD j 0 := by rw [List.getD_eq_getElem?_getD, List.getElem?_eq_getElem (by omega)]; rfl
  rw [hgi] at hci
  rw [hgj] at hcj
  obtain ⟨x, hx⟩ : ∃ x, x = xs.getD i 0 := ⟨_, rfl⟩
  obtain ⟨y, hy⟩ : ∃ y, y = xs.getD j 0 := ⟨_, rfl⟩
  rw [← hx] at hci ⊢
  rw [← hy] at hcj ⊢
  have HC := Lib.hid (fun W => compareNumbers_any y x W)
  clear hx hy hgi hgj had' hn hr
  go_enter Try.func77, Try.ntmps77
  go_wp2_with fail
  go_quiet ((go_at_call 78; exact Calls.quiet_of_same (HC.out _)))
  go_wp2
  go_ret
  exact ⟨rfl, _, rfl⟩
theorem rank_ok (xs : List Nat) (hf : finL xs = true) (cf : Nat → Nat → Int) (hcf : ∀ i j, i < xs.length → j < xs.length → cf i j = cmpN (xs.getD j 0) (xs.getD i 0)) : (List.range xs.length).Pairwise (OkC (ltD xs) cf) := by
  refine (List.pairwise_lt_range (n := xs.length)).imp_of_mem fun {y x} hy hx hlt => ?_
  rw [List.mem_range] at hy hx
  have h := cmpN_lt (fin_get (finL_mem hf) y) (fin_get (finL_mem hf) x)
  unfold OkC
  rw [hcf x y hx hy, h]
  unfold ltD keyAt
  constructor
  · intro h1; exact .inl h1
  · intro h1; omega
theorem ids_map (n : Nat) : (List.range n).map (fun i : Nat => Value.int .i64 ((min i (n - 1) : Nat) : Int)) = (List.range n).map (fun i : Nat => Value.int .i64 (i : Int)) := by
  refine List.map_congr_left fun i hi => ?_
  rw [List.mem_range] at hi
  rw [show min i (n - 1) = i by omega]
set_option maxHeartbeats 4000000 in
set_option maxRecDepth 100000 in
theorem rankOf_any (A : Option Addr) (n c : Nat) (xs : List Nat) (w : World) (hn : xs.length = n) (hm : n ≤ 1048576) (hr : Rd w w.heap.size A (xs.map (Value.float .f32))) :
    Calls Try.prog 38 #[.slice A n c] w fun e w' => GivesI w.heap.size (rankR xs) (rankOk xs) e w' ∧ Below w.heap.size w w' := by
  have hb0 := below_new w (.cells #[.slice A n c] 31)
  have cl := isList_any A n c xs (w.alloc (.cells #[.slice A n c] 31)) hn hm (hr.next hb0)
  cases hl : listB xs
  · rw [hl] at cl
    have HC := Lib.hid cl
    have HR : Hid (rankR xs = [] ∧ rankOk xs = false) := Lib.hid (by unfold rankR rankOk; rw [hl]; exact ⟨rfl, rfl⟩)
    have HB0 := Lib.hid hb0
    clear cl hl hr hn hb0
    go_enter Try.func38, Try.ntmps38
    go_wp2_with fail
    refine HC.out.mono ?_
    rintro e w1 ⟨rfl, hb⟩
    have HB := Lib.hid (bthen HB0.out hb); clear hb
    go_wp2
    go_ret2
    rw [HR.out.1, HR.out.2]
    exact ⟨⟨none, 0, rfl, ⟨rfl, .inl ⟨rfl, rfl⟩⟩⟩, HB.out⟩
  · obtain ⟨hn256, hfin⟩ := listB_len hl
    rw [hn] at hn256
    rw [hl] at cl
    have HC := Lib.hid cl
    obtain ⟨i0, hi, hz0, hz1, hz2⟩ := info_parts Try.info2
    have HR : Hid (rankR xs = (rankL xs).map (fun i : Nat => (i : Int)) ∧ rankOk xs = true) := Lib.hid (by unfold rankR rankOk; rw [hl]; exact ⟨rfl, rfl⟩)
    have HOK := Lib.hid (rank_ok xs hfin)
    have HF := Lib.hid hfin
    have Hr := Lib.hid (hr.next hb0)
    have Hn := Lib.hid hn
    have HB0 := Lib.hid hb0
    have hbox : (w.alloc (.cells #[.slice A n c] 31)).cell? ⟨w.heap.size, 0, none⟩ = some (.slice A n c) := by simp [go_sem]
    have HX := Lib.hid hbox
    have hmf : ∀ (fn : Fn) (first cap : Array Value) (w : World), (Instr.makeFunc fn first cap).run Try.prog w = .ok (.func fn first cap) w := fun _ _ _ _ => rfl
    clear cl hl hr hn hb0 hfin
    go_enter Try.func38, Try.ntmps38
    go_wp2_with fail
    obtain ⟨wa, hwa⟩ : ∃ wa, wa = w.alloc (.cells #[.slice A n c] 31) := ⟨_, rfl⟩
    have HSZ : Hid (wa.heap.size = w.heap.size + 1) := Lib.hid (by rw [hwa]; simp)
    rw [← hwa] at HC Hr HB0 HX ⊢
    clear hwa hbox
    refine HC.out.mono ?_
    rintro e w1 ⟨rfl, hb⟩
    have hx1 : w1.cell? ⟨w.heap.size, 0, none⟩ = some (.slice A n c) := (hb.cell (p := ⟨w.heap.size, 0, none⟩) (by rw [HSZ.out]; simp)).trans HX.out
    have hzw : w.heap.size + 1 ≤ w1.heap.size := by have := hb.size; have := HSZ.out; omega
    have B1 := Lib.hid (show Below (w.heap.size + 1) wa w1 by have h := hb; rw [HSZ.out] at h; exact h)
    have hN1 := World.ownsRow_made (e := 2) (size := 1) w1 #[] 0 hzw (Nat.zero_le _) rfl
    have HN1 := Lib.hid hN1
    have HB1 := Lib.hid (bthen hb (below_new w1 (.cells #[] 2)))
    have HB2 : Hid (Below (w.heap.size + 1) wa (w1.alloc (.cells #[] 2))) := Lib.hid (by have h := HB1.out; rw [HSZ.out] at h; exact h)
    have hx2 := (HB2.out.cell (p := ⟨w.heap.size, 0, none⟩) (by simp)).trans HX.out
    clear hb hN1
    go_wp2_with fail
    go_loopw [4, 12] (fun v i wr => ∃ (k : Nat), k ≤ n ∧ i = .int .i64 k ∧ wr.ownsRow (w.heap.size + 1) 2 1 v k ((List.range k).map (fun i : Nat => Value.int .i64 (i : Int))) ∧ Below (w.heap.size + 1) wa wr) (fun _ i _ => n - (intOf i).toNat)
    case atStart => exact ⟨0, Nat.zero_le _, rfl, HN1.out, HB2.out⟩
    case round =>
      clear hx1 hx2
      obtain ⟨k, hk, rfl, hv, hb⟩ := hrel
      have HV := Lib.hid hv
      have HB := Lib.hid hb
      have hwz : w.heap.size + 1 ≤ wr.heap.size := by have := hb.size; have := HSZ.out; omega
      clear hv hb
      obtain ⟨Av, cv, rfl, hrv⟩ := shapeOf HV.out
      by_cases hlt : k < n
      · have hkz : (k : Int) < (n : Int) := by omega
        clear hrv
        go_wp2_with (at_builtin; go_must (refine wpList_append_own_at _ rfl (.tmp 15) (.tmp 17) 22 rfl (w.heap.size + 1) 2 i0 (.int .i64 0) 1 8 Try.underlying22 hi hz0 hz1 hz2 rfl (by decide) _ _ _ rfl (HV.out.alloc _) ⟨wr.heap.size, 0, none⟩ 1 1 [.int .i64 k] rfl rfl (newOne wr _ 2) (by intro u hu; simp at hu; subst hu; rfl) ?_ ?_ ?_ ?_))
        · unfold maxLen; omega
        · omega
        · simp; omega
        intro v' w7 hown' hgrow _ hat'
        have HV7 : Hid (w7.ownsRow (w.heap.size + 1) 2 1 v' (k + 1) ((List.range (k + 1)).map (fun i : Nat => Value.int .i64 (i : Int)))) := Lib.hid (by rw [List.range_succ, List.map_append]; simpa using hown')
        have HB7 := Lib.hid ((HB.out.alloc hwz (.cells #[.int .i64 k] 2)).grown hgrow (by simp; omega) (fun q hq => (HV.out.lt q hq).1))
        clear hown' hgrow hat'
        go_wp2
        go_roundw
        case rel => exact ⟨k + 1, by omega, by go_num, HV7.out, HB7.out⟩
        case measure => simp [intOf]; omega
      · obtain rfl : n = k := by omega
        have hxr : wr.cell? ⟨w.heap.size, 0, none⟩ = some (.slice A n c) := (HB.out.cell (p := ⟨w.heap.size, 0, none⟩) (by simp)).trans HX.out
        have HXR := Lib.hid hxr
        have hRR := (Hr.out.more (by have := HSZ.out; omega : wa.heap.size ≤ w.heap.size + 1)).below HB.out
        have HRR := Lib.hid hRR
        clear hxr hRR
        by_cases hn0 : n = 0
        · subst hn0
          have HE : Hid (rankL xs = []) := Lib.hid (by unfold rankL; rw [Hn.out]; exact sortedOf_eq (ltD_as xs) (.refl _) .nil)
          have HC2 := Lib.hid (fun f W => sortNone_I Av cv f W)
          clear hrv
          go_wp2_with fail
          refine (HC2.out _ _).mono ?_
          rintro e w' ⟨rfl, rfl⟩
          go_wp2
          go_ret2
          rw [HR.out.1, HR.out.2, HE.out]
          exact ⟨⟨_, _, rfl, by simpa using own_base HV.out (Nat.le_succ _)⟩, bthen HB0.out (by have h := HB.out; rwa [HSZ.out])⟩
        · obtain ⟨g, hg⟩ : ∃ g, Av = some ⟨g, 0, none⟩ := by
            rcases HV.out.2 with ⟨hv, h0⟩ | ⟨g, cap, cur, hv, _⟩
            · exact absurd h0 (by simpa using hn0)
            · exact ⟨g, by injection hv⟩
          subst hg
          obtain ⟨enc, henc⟩ : ∃ enc : Nat → Value, enc = fun i => Value.int .i64 ((min i (n - 1) : Nat) : Int) := ⟨_, rfl⟩
          have ho : wr.ownsRow (w.heap.size + 1) 2 1 (.slice (some ⟨g, 0, none⟩) n cv) n ((List.range n).map enc) := by rw [henc, ids_map]; exact HV.out
          obtain ⟨hrow, hsl, hgB⟩ := row_sw ho (by rw [henc]; exact fun i => rfl)
          have hgl := hrow.hblk
          have hin : SortIn enc (fun i j => cmpN (xs.getD (min j (n - 1)) 0) (xs.getD (min i (n - 1)) 0)) (ltD xs) 77 #[.pointer (some ⟨w.heap.size, 0, none⟩)] g 0 n (List.range n).toArray wr := by
            refine ⟨enters_of (P := Try.prog) Try.func77 (by kernel_rfl) rfl, ?_, hrow, by simp, ltD_tr xs, by omega⟩
            intro m os dk hdk x y
            subst henc
            have hW : ∀ a : Addr, a.block < w.heap.size + 1 → (sortWorld (fun i : Nat => Value.int .i64 ((min i (n - 1) : Nat) : Int)) wr g 0 m dk os).cell? a = wr.cell? a := fun a ha => sw_cell (by omega) (by omega)
            have hsz : wr.heap.size ≤ (sortWorld (fun i : Nat => Value.int .i64 ((min i (n - 1) : Nat) : Int)) wr g 0 m dk os).heap.size := SW.le ⟨m, os, rfl⟩
            have := rankFn_any A n c w.heap.size xs (min x (n - 1)) (min y (n - 1)) _ Hn.out (by omega) (by omega) ((hW _ (by simp)).trans HXR.out) hm (((HRR.out.keep (fun q hq => hW q hq))).more (by omega))
            change Calls Try.prog 77 #[Value.int .i64 ((min x (n - 1) : Nat) : Int), Value.int .i64 ((min y (n - 1) : Nat) : Int), .pointer (some ⟨w.heap.size, 0, none⟩)] _ _
            refine this.mono ?_
            rintro e w' ⟨rfl, q, rfl⟩
            exact ⟨rfl, q, #[], by rw [grow_empty]⟩
          have hsort := sortStable_I hin cv (List.range n) wr (by simp) (by
            have h := HOK.out (fun i j => cmpN (xs.getD (min j (n - 1)) 0) (xs.getD (min i (n - 1)) 0)) (fun i j hi hj => by rw [Hn.out] at hi hj; show cmpN _ _ = _; rw [show min j (n - 1) = j by omega, show min i (n - 1) = i by omega])
            rwa [Hn.out] at h) hsl
          have HST := Lib.hid hsort
          have HHO := Lib.hid ho
          have HGB := Lib.hid (And.intro hgB hgl)
          have HEN := Lib.hid henc
          clear hsort hin hrow hsl ho henc hgl hgB hrv
          go_wp2_with fail
          refine HST.out.mono ?_
          rintro e w2 ⟨rfl, M, hM1, hM2, hM3⟩
          have hMl : M.length = n := by rw [hM1.length_eq]; simp
          have ho2 := own_sw HHO.out hMl hM3
          have hmap : M.map enc = (M.map (fun i : Nat => (i : Int))).map (Value.int .i64) := by
            rw [List.map_map, HEN.out]
            refine List.map_congr_left fun i hi => ?_
            have := List.mem_range.1 (hM1.mem_iff.1 hi)
            show Value.int .i64 _ = Value.int .i64 _
            rw [show min i (n - 1) = i by omega]
          rw [hmap] at ho2
          have HE : Hid (rankL xs = M) := Lib.hid (by unfold rankL; rw [Hn.out]; exact sortedOf_eq (ltD_as xs) hM1 hM2)
          have HO2 := Lib.hid (own_base ho2 (Nat.le_succ _))
          have hgr := grownBy_sw hM3
          have HB9 := Lib.hid (HB.out.grown hgr hwz (fun q hq => by injection hq with hq; rw [← hq]; exact HGB.out.1))
          have HML : Hid ((M.map (fun i : Nat => (i : Int))).length = n) := Lib.hid (by rw [List.length_map, hMl])
          clear hM1 hM2 hM3 hMl ho2 hmap hgr
          go_wp2
          go_ret2
          rw [HR.out.1, HR.out.2, HE.out]
          exact ⟨⟨_, _, by rw [HML.out]; rfl, by rw [HML.out]; exact HO2.out⟩, bthen HB0.out (by have h := HB9.out; rwa [HSZ.out])⟩
end Go.Proofs.Ytcpimcjmckljfaa
