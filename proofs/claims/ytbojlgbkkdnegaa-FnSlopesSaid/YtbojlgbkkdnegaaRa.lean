/- CloneF, RankI, RankS, GapsS, Tail, TailI -/
import Derived.Test.YtbojlgbkkdnegaaSortUse
import Derived.Test.YtbojlgbkkdnegaaBo
import Derived.Deep.AppendLies
import Derived.BigQuiet
import Derived.StillTailTactics
-- Copies of lists of float32s; gaps between the numbers of a list, told over lists.
namespace Go.Proofs.Ytbojlgbkkdnegaa
open Ieee Go.Shelf Go.RowKit Go.Lib Go.Sort
theorem add_zero_off (g k : Nat) : (⟨g, 0, none⟩ : Addr).add k = ⟨g, k, none⟩ := by unfold Addr.add; split <;> simp_all
theorem one_floats (l : List Nat) : ∀ u ∈ l.map (Value.float .f32), u.oneCell' = true := by
  intro u hu
  rw [List.mem_map] at hu
  obtain ⟨x, _, rfl⟩ := hu
  rfl
theorem Rd.some {w : World} {B : Nat} {A : Option Addr} {xs : List Value} (h : Rd w B A xs) (h0 : 0 < xs.length) : ∃ ad, A = .some ad ∧ ad.block < B ∧ ∀ j u, xs[j]? = .some u → w.cell? (ad.add j) = .some u := by
  rcases h with rfl | h
  · simp at h0
  · exact h
set_option maxHeartbeats 1000000 in
set_option maxRecDepth 100000 in
theorem cloneF_any (ad : Addr) (n c : Nat) (bs : List Nat) (w : World) (hn : bs.length = n) (hc : n ≤ 1048576) (hr : Rd w w.heap.size (some ad) (bs.map (Value.float .f32))) :
    Calls Try.prog 42 #[.slice (some ad) n c] w fun e w' => (∃ g cp, e = .returned (.slice (some ⟨g, 0, none⟩) n cp) ∧ w'.ownsRow w.heap.size 25 1 (.slice (some ⟨g, 0, none⟩) n cp) n (bs.map (Value.float .f32))) ∧ Below w.heap.size w w' := by
  obtain ⟨i0, hi, hz0, hz1, hz2⟩ := info_parts Try.info25
  have HN : Hid ((w.alloc (.cells #[] 25)).ownsRow w.heap.size 25 1 (.slice (some ⟨w.heap.size, 0, none⟩) 0 0) 0 []) := Lib.hid (World.ownsRow_made w #[] 0 (Nat.le_refl _) (Nat.zero_le _) rfl)
  have he := Lib.run_eql_slice_nil (P := Try.prog) w 26 25 (some ad) n c 0 0 Try.underlying26
  by_cases h0 : 0 < n
  · obtain ⟨ad', had', had, hcl⟩ := hr.some (by rw [List.length_map]; omega)
    obtain rfl : ad' = ad := (Option.some.inj had').symm
    have HC : Hid (∀ j u, (bs.map (Value.float .f32))[j]? = some u → (w.alloc (.cells #[] 25)).cell? (ad'.add j) = some u) := Lib.hid fun j u hu => by
      rw [World.cell?_alloc_lt _ _ _ (by rw [add_block]; exact had)]; exact hcl j u hu
    have hn1 : (bs.map (Value.float .f32)).length = n * 1 := by simp [hn]
    have HL := Lib.hid hn1
    clear hr hcl hn hn1 had'
    go_enter Try.func42, Try.ntmps42
    go_wp2_with (at_builtin; go_must (refine wpList_append_lies _ rfl (.tmp 5) (.tmp 6) 26 rfl w.heap.size 25 i0 (.float .f32 0) 1 4 Try.underlying26 hi hz0 hz1 hz2 rfl (by decide) _ _ _ rfl HN.out ad' n c (bs.map (Value.float .f32)) rfl HL.out HC.out (one_floats _) h0 ?_ ?_ ?_ _ rfl ?_))
    · unfold maxLen; omega
    · omega
    · simp
    intro g cp w1 ho hg _ _
    have HO : Hid (w1.ownsRow w.heap.size 25 1 (.slice (some ⟨g, 0, none⟩) n cp) n (bs.map (Value.float .f32))) := Lib.hid (by simpa using ho)
    have HB := Lib.hid ((below_new w (.cells #[] 25)).grown hg (by simp) (fun k hk => (HN.out.lt k hk).1))
    clear ho hg
    go_wp2
    go_ret
    exact ⟨⟨g, cp, by simp, HO.out⟩, HB.out⟩
  · obtain rfl : n = 0 := by omega
    obtain rfl : bs = [] := List.eq_nil_of_length_eq_zero hn
    clear hr hn h0
    go_enter Try.func42, Try.ntmps42
    go_wp2_with (at_builtin; go_must (refine wpList_append_own_at _ rfl (.tmp 5) (.tmp 6) 26 rfl w.heap.size 25 i0 (.float .f32 0) 1 4 Try.underlying26 hi hz0 hz1 hz2 rfl (by decide) _ _ _ rfl HN.out ad 0 c [] rfl rfl (fun j u hu => by simp at hu) (fun u hu => by cases hu) ?_ ?_ ?_ ?_))
    · unfold maxLen; omega
    · omega
    · simp
    intro v' w7 hown' hgrow _ hat'
    have HV7 := Lib.hid hown'
    have HB := Lib.hid ((below_new w (.cells #[] 25)).grown hgrow (by simp) (fun k hk => (HN.out.lt k hk).1))
    have HAT := Lib.hid hat'
    clear hown' hgrow hat'
    go_wp2
    go_ret
    have hsh : ∃ g cp, v' = .slice (some ⟨g, 0, none⟩) 0 cp := by
      rcases HV7.out.2 with ⟨hv, h0⟩ | ⟨g, cap, cur, hv, _⟩
      · rcases HAT.out with h | h <;> · rw [hv] at h; cases h
      · exact ⟨g, cap, hv⟩
    obtain ⟨g, cp, rfl⟩ := hsh
    exact ⟨⟨g, cp, rfl, HV7.out⟩, HB.out⟩
/-- the numbers upwards -/
noncomputable def srtA (xs : List Nat) : List Nat := (sortedOf (ltA xs) (List.range xs.length)).map fun i => xs.getD i 0
def gapsN (sl : List Nat) : List Nat := (List.range (sl.length - 1)).map fun i => fop .sub .f32 (sl.getD (i + 1) 0) (sl.getD i 0)
noncomputable def gapsOk (xs : List Nat) : Bool := listB xs && finL (gapsN (srtA xs))
noncomputable def gapsR (xs : List Nat) : List Nat := if gapsOk xs = true then gapsN (srtA xs) else []
theorem sortedOf_len (lt : Nat → Nat → Prop) (ts : List Nat) : (sortedOf lt ts).length ≤ ts.length := by
  unfold sortedOf
  split
  · rename_i h
    exact Nat.le_of_eq (Classical.choose_spec h).1.length_eq
  · simp
theorem gapsR_len (xs : List Nat) (h : xs.length ≤ 1048576) : (gapsR xs).length ≤ 1048576 := by
  unfold gapsR
  split
  · unfold gapsN srtA
    have := sortedOf_len (ltA xs) (List.range xs.length)
    rw [List.length_range] at this
    rw [List.length_map, List.length_range, List.length_map]
    omega
  · simp
theorem gap_step {sl : List Nat} {k : Nat} (h : k + 1 < sl.length) : (List.range (k + 1)).map (fun i => fop .sub .f32 (sl.getD (i + 1) 0) (sl.getD i 0)) = (List.range k).map (fun i => fop .sub .f32 (sl.getD (i + 1) 0) (sl.getD i 0)) ++ [fop .sub .f32 sl[k + 1] (sl[k]'(by omega))] := by
  rw [List.range_succ, List.map_append]
  simp [List.getD_eq_getElem?_getD, List.getElem?_eq_getElem h, List.getElem?_eq_getElem (show k < sl.length by omega)]
theorem asc_ok (xs : List Nat) (hf : finL xs = true) : (List.range xs.length).Pairwise (OkC (ltA xs) (fun i j => cmpN (xs.getD i 0) (xs.getD j 0))) := by
  refine (List.pairwise_lt_range (n := xs.length)).imp fun {y x} hlt => ?_
  have h := cmpN_lt (fin_get (finL_mem hf) x) (fin_get (finL_mem hf) y)
  unfold OkC
  rw [h]
  unfold ltA keyAt
  constructor
  · intro h1; exact .inl h1
  · intro h1; omega
theorem vals_map (xs : List Nat) : (List.range xs.length).map (fun i => Value.float .f32 (xs.getD i 0)) = xs.map (Value.float .f32) := by
  refine List.ext_getElem (by simp) fun i h1 h2 => ?_
  simp [List.getD_eq_getElem?_getD]
  rw [List.getElem?_eq_getElem (by simpa using h2)]
  rfl
theorem srt_fin {xs : List Nat} (hf : finL xs = true) : ∀ x ∈ srtA xs, finB x = true := by
  intro x hx
  obtain ⟨i, _, rfl⟩ := List.mem_map.1 hx
  exact fin_get (finL_mem hf) i
theorem sw_noop {enc : Nat → Value} {w : World} {blk off m : Nat} {dk : Array Nat} {os : Array Obj} : sortWorld enc w blk off m dk os = sortWorld enc w blk off m dk os := rfl
set_option maxHeartbeats 1000000 in
/-- a list of floats sorted upwards -/
theorem sortUp_any {w : World} {B g cap n : Nat} {xs : List Nat} (hn : xs.length = n) (hm : n ≤ 1048576) (hf : finL xs = true) (ho : w.ownsRow B 25 1 (.slice (some ⟨g, 0, none⟩) n cap) n (xs.map (Value.float .f32))) :
    Calls Try.prog 43 #[.slice (some ⟨g, 0, none⟩) n cap, .func (.func 34) #[] #[]] w fun e w' => e = .returned (.tuple #[]) ∧ w'.ownsRow B 25 1 (.slice (some ⟨g, 0, none⟩) n cap) n ((srtA xs).map (Value.float .f32)) ∧ (srtA xs).length = n ∧ Below B w w' := by
  obtain ⟨enc, henc⟩ : ∃ enc : Nat → Value, enc = fun i => Value.float .f32 (xs.getD i 0) := ⟨_, rfl⟩
  have ho' : w.ownsRow B 25 1 (.slice (some ⟨g, 0, none⟩) n cap) n ((List.range n).map enc) := by rw [henc, ← hn, vals_map, hn]; exact ho
  obtain ⟨hrow, hsl, hgB⟩ := row_sw ho' (by rw [henc]; exact fun i => rfl)
  have hin : SortIn enc (fun i j => cmpN (xs.getD i 0) (xs.getD j 0)) (ltA xs) 34 #[] g 0 n (List.range n).toArray w := by
    refine ⟨enters_of (P := Try.prog) Try.func34 (by kernel_rfl) rfl, ?_, hrow, by simp, ltA_tr xs, by omega⟩
    intro m os dk hdk x y
    subst henc
    change Calls Try.prog 34 #[.float .f32 (xs.getD x 0), .float .f32 (xs.getD y 0)] _ _
    refine (compareNumbers_any _ _ _).mono ?_
    rintro e w' ⟨rfl, rfl⟩
    exact ⟨rfl, 0, #[], by rw [grow_empty]; rfl⟩
  have hok := asc_ok xs hf
  rw [hn] at hok
  refine (sortStable_F hin cap (List.range n) w (by simp) hok hsl).mono ?_
  rintro e w' ⟨rfl, M, h1, h2, h3⟩
  have hMl : M.length = n := by rw [h1.length_eq]; simp
  have hE : sortedOf (ltA xs) (List.range xs.length) = M := by rw [hn]; exact sortedOf_eq (ltA_as xs) h1 h2
  have ho2 := own_sw ho' hMl h3
  refine ⟨rfl, ?_, by unfold srtA; rw [hE, List.length_map, hMl], ?_⟩
  · unfold srtA
    rw [hE, List.map_map]
    rw [henc] at ho2
    exact ho2
  · exact (Below.refl B w).grown (grownBy_sw h3) (by have := hrow.hblk; omega) (fun q hq => by injection hq with hq; rw [← hq]; exact hgB)
end Go.Proofs.Ytbojlgbkkdnegaa

-- RankOf, the program's way.
namespace Go.Proofs.Ytbojlgbkkdnegaa
open Go.Shelf Go.RowKit Go.Lib Go.Sort
noncomputable def rankL (xs : List Nat) : List Nat := sortedOf (ltD xs) (List.range xs.length)
def rankOk (xs : List Nat) : Bool := listB xs
noncomputable def rankR (xs : List Nat) : List Int := if rankOk xs = true then (rankL xs).map (fun i : Nat => (i : Int)) else []
set_option maxHeartbeats 2000000 in
set_option maxRecDepth 100000 in
theorem rankFn_any (A : Option Addr) (n c p : Nat) (xs : List Nat) (i j : Nat) (W : World) (hn : xs.length = n) (hi : i < n) (hj : j < n) (hp : W.cell? ⟨p, 0, none⟩ = some (.slice A n c)) (_hm : n ≤ 1048576) (hr : Rd W W.heap.size A (xs.map (Value.float .f32))) :
    Calls Try.prog 33 #[.int .i64 i, .int .i64 j, .pointer (some ⟨p, 0, none⟩)] W fun e w' => e = .returned (.int .i64 (cmpN (xs.getD j 0) (xs.getD i 0))) ∧ ∃ q, w' = W.drewN q := by
  obtain ⟨ad, rfl, _, hci⟩ := hr.at_ (k := i) (by rw [List.length_map]; omega)
  obtain ⟨ad', had', _, hcj⟩ := hr.at_ (k := j) (by rw [List.length_map]; omega)
  obtain rfl : ad' = ad := (Option.some.inj had').symm
  rw [List.getElem_map] at hci hcj
  have hgi : xs[i]'(by omega) = xs.getD i 0 := by rw [List.getD_eq_getElem?_getD, List.getElem?_eq_getElem (by omega)]; rfl
  have hgj : xs[j]'(by omega) = xs.getD j 0 := by rw [List.getD_eq_getElem?_getD, List.getElem?_eq_getElem (by omega)]; rfl
  rw [hgi] at hci
  rw [hgj] at hcj
  obtain ⟨x, hx⟩ : ∃ x, x = xs.getD i 0 := ⟨_, rfl⟩
  obtain ⟨y, hy⟩ : ∃ y, y = xs.getD j 0 := ⟨_, rfl⟩
  rw [← hx] at hci ⊢
  rw [← hy] at hcj ⊢
  have HC := Lib.hid (fun W => compareNumbers_any y x W)
  clear hx hy hgi hgj had' hn hr
  go_enter Try.func33, Try.ntmps33
  go_wp2_with fail
  go_quiet ((go_at_call 34; exact Calls.quiet_of_same (HC.out _)))
  go_wp2
  go_ret
  exact ⟨rfl, _, rfl⟩
theorem rank_ok (xs : List Nat) (hf : finL xs = true) (cf : Nat → Nat → Int) (hcf : ∀ i j, i < xs.length → j < xs.length → cf i j = cmpN (xs.getD j 0) (xs.getD i 0)) : (List.range xs.length).Pairwise (OkC (ltD xs) cf) := by
  refine (List.pairwise_lt_range (n := xs.length)).imp_of_mem fun {y x} hy hx hlt => ?_
  rw [List.mem_range] at hy hx
  have h := cmpN_lt (fin_get (finL_mem hf) y) (fin_get (finL_mem hf) x)
  unfold OkC
  rw [hcf x y hx hy, h]
  unfold ltD keyAt
  constructor
  · intro h1; exact .inl h1
  · intro h1; omega
theorem ids_map (n : Nat) : (List.range n).map (fun i : Nat => Value.int .i64 ((min i (n - 1) : Nat) : Int)) = (List.range n).map (fun i : Nat => Value.int .i64 (i : Int)) := by
  refine List.map_congr_left fun i hi => ?_
  rw [List.mem_range] at hi
  rw [show min i (n - 1) = i by omega]
set_option maxHeartbeats 4000000 in
set_option maxRecDepth 100000 in
theorem rankOf_any (A : Option Addr) (n c : Nat) (xs : List Nat) (w : World) (hn : xs.length = n) (hm : n ≤ 1048576) (hr : Rd w w.heap.size A (xs.map (Value.float .f32))) :
    Calls Try.prog 10 #[.slice A n c] w fun e w' => GivesI w.heap.size (rankR xs) (rankOk xs) e w' ∧ Below w.heap.size w w' := by
  have hb0 := below_new w (.cells #[.slice A n c] 26)
  have cl := isList_any A n c xs (w.alloc (.cells #[.slice A n c] 26)) hn hm (hr.next hb0)
  cases hl : listB xs
  · rw [hl] at cl
    have HC := Lib.hid cl
    have HR : Hid (rankR xs = [] ∧ rankOk xs = false) := Lib.hid (by unfold rankR rankOk; rw [hl]; exact ⟨rfl, rfl⟩)
    have HB0 := Lib.hid hb0
    clear cl hl hr hn hb0
    go_enter Try.func10, Try.ntmps10
    go_wp2_with fail
    refine HC.out.mono ?_
    rintro e w1 ⟨rfl, hb⟩
    have HB := Lib.hid (bthen HB0.out hb); clear hb
    go_wp2
    go_ret2
    rw [HR.out.1, HR.out.2]
    exact ⟨⟨none, 0, rfl, ⟨rfl, .inl ⟨rfl, rfl⟩⟩⟩, HB.out⟩
  · obtain ⟨hn256, hfin⟩ := listB_len hl
    rw [hn] at hn256
    rw [hl] at cl
    have HC := Lib.hid cl
    obtain ⟨i0, hi, hz0, hz1, hz2⟩ := info_parts Try.info2
    have HR : Hid (rankR xs = (rankL xs).map (fun i : Nat => (i : Int)) ∧ rankOk xs = true) := Lib.hid (by unfold rankR rankOk; rw [hl]; exact ⟨rfl, rfl⟩)
    have HOK := Lib.hid (rank_ok xs hfin)
    have HF := Lib.hid hfin
    have Hr := Lib.hid (hr.next hb0)
    have Hn := Lib.hid hn
    have HB0 := Lib.hid hb0
    have hbox : (w.alloc (.cells #[.slice A n c] 26)).cell? ⟨w.heap.size, 0, none⟩ = some (.slice A n c) := by simp [go_sem]
    have HX := Lib.hid hbox
    have hmf : ∀ (fn : Fn) (first cap : Array Value) (w : World), (Instr.makeFunc fn first cap).run Try.prog w = .ok (.func fn first cap) w := fun _ _ _ _ => rfl
    clear cl hl hr hn hb0 hfin
    go_enter Try.func10, Try.ntmps10
    go_wp2_with fail
    obtain ⟨wa, hwa⟩ : ∃ wa, wa = w.alloc (.cells #[.slice A n c] 26) := ⟨_, rfl⟩
    have HSZ : Hid (wa.heap.size = w.heap.size + 1) := Lib.hid (by rw [hwa]; simp)
    rw [← hwa] at HC Hr HB0 HX ⊢
    clear hwa hbox
    refine HC.out.mono ?_
    rintro e w1 ⟨rfl, hb⟩
    have hx1 : w1.cell? ⟨w.heap.size, 0, none⟩ = some (.slice A n c) := (hb.cell (p := ⟨w.heap.size, 0, none⟩) (by rw [HSZ.out]; simp)).trans HX.out
    have hzw : w.heap.size + 1 ≤ w1.heap.size := by have := hb.size; have := HSZ.out; omega
    have B1 := Lib.hid (show Below (w.heap.size + 1) wa w1 by have h := hb; rw [HSZ.out] at h; exact h)
    have hN1 := World.ownsRow_made (e := 2) (size := 1) w1 #[] 0 hzw (Nat.zero_le _) rfl
    have HN1 := Lib.hid hN1
    have HB1 := Lib.hid (bthen hb (below_new w1 (.cells #[] 2)))
    have HB2 : Hid (Below (w.heap.size + 1) wa (w1.alloc (.cells #[] 2))) := Lib.hid (by have h := HB1.out; rw [HSZ.out] at h; exact h)
    have hx2 := (HB2.out.cell (p := ⟨w.heap.size, 0, none⟩) (by simp)).trans HX.out
    clear hb hN1
    go_wp2_with fail
    go_loopw [4, 12] (fun v i wr => ∃ (k : Nat), k ≤ n ∧ i = .int .i64 k ∧ wr.ownsRow (w.heap.size + 1) 2 1 v k ((List.range k).map (fun i : Nat => Value.int .i64 (i : Int))) ∧ Below (w.heap.size + 1) wa wr) (fun _ i _ => n - (intOf i).toNat)
    case atStart => exact ⟨0, Nat.zero_le _, rfl, HN1.out, HB2.out⟩
    case round =>
      clear hx1 hx2
      obtain ⟨k, hk, rfl, hv, hb⟩ := hrel
      have HV := Lib.hid hv
      have HB := Lib.hid hb
      have hwz : w.heap.size + 1 ≤ wr.heap.size := by have := hb.size; have := HSZ.out; omega
      clear hv hb
      obtain ⟨Av, cv, rfl, hrv⟩ := shapeOf HV.out
      by_cases hlt : k < n
      · have hkz : (k : Int) < (n : Int) := by omega
        clear hrv
        go_wp2_with (at_builtin; go_must (refine wpList_append_own_at _ rfl (.tmp 15) (.tmp 17) 32 rfl (w.heap.size + 1) 2 i0 (.int .i64 0) 1 8 Try.underlying32 hi hz0 hz1 hz2 rfl (by decide) _ _ _ rfl (HV.out.alloc _) ⟨wr.heap.size, 0, none⟩ 1 1 [.int .i64 k] rfl rfl (newOne wr _ 2) (by intro u hu; simp at hu; subst hu; rfl) ?_ ?_ ?_ ?_))
        · unfold maxLen; omega
        · omega
        · simp; omega
        intro v' w7 hown' hgrow _ hat'
        have HV7 : Hid (w7.ownsRow (w.heap.size + 1) 2 1 v' (k + 1) ((List.range (k + 1)).map (fun i : Nat => Value.int .i64 (i : Int)))) := Lib.hid (by rw [List.range_succ, List.map_append]; simpa using hown')
        have HB7 := Lib.hid ((HB.out.alloc hwz (.cells #[.int .i64 k] 2)).grown hgrow (by simp; omega) (fun q hq => (HV.out.lt q hq).1))
        clear hown' hgrow hat'
        go_wp2
        go_roundw
        case rel => exact ⟨k + 1, by omega, by go_num, HV7.out, HB7.out⟩
        case measure => simp [intOf]; omega
      · obtain rfl : n = k := by omega
        have hxr : wr.cell? ⟨w.heap.size, 0, none⟩ = some (.slice A n c) := (HB.out.cell (p := ⟨w.heap.size, 0, none⟩) (by simp)).trans HX.out
        have HXR := Lib.hid hxr
        have hRR := (Hr.out.more (by have := HSZ.out; omega : wa.heap.size ≤ w.heap.size + 1)).below HB.out
        have HRR := Lib.hid hRR
        clear hxr hRR
        by_cases hn0 : n = 0
        · subst hn0
          have HE : Hid (rankL xs = []) := Lib.hid (by unfold rankL; rw [Hn.out]; exact sortedOf_eq (ltD_as xs) (.refl _) .nil)
          have HC2 := Lib.hid (fun f W => sortNone_I Av cv f W)
          clear hrv
          go_wp2_with fail
          refine (HC2.out _ _).mono ?_
          rintro e w' ⟨rfl, rfl⟩
          go_wp2
          go_ret2
          rw [HR.out.1, HR.out.2, HE.out]
          exact ⟨⟨_, _, rfl, by simpa using own_base HV.out (Nat.le_succ _)⟩, bthen HB0.out (by have h := HB.out; rwa [HSZ.out])⟩
        · obtain ⟨g, hg⟩ : ∃ g, Av = some ⟨g, 0, none⟩ := by
            rcases HV.out.2 with ⟨hv, h0⟩ | ⟨g, cap, cur, hv, _⟩
            · exact absurd h0 (by simpa using hn0)
            · exact ⟨g, by injection hv⟩
          subst hg
          obtain ⟨enc, henc⟩ : ∃ enc : Nat → Value, enc = fun i => Value.int .i64 ((min i (n - 1) : Nat) : Int) := ⟨_, rfl⟩
          have ho : wr.ownsRow (w.heap.size + 1) 2 1 (.slice (some ⟨g, 0, none⟩) n cv) n ((List.range n).map enc) := by rw [henc, ids_map]; exact HV.out
          obtain ⟨hrow, hsl, hgB⟩ := row_sw ho (by rw [henc]; exact fun i => rfl)
          have hgl := hrow.hblk
          have hin : SortIn enc (fun i j => cmpN (xs.getD (min j (n - 1)) 0) (xs.getD (min i (n - 1)) 0)) (ltD xs) 33 #[.pointer (some ⟨w.heap.size, 0, none⟩)] g 0 n (List.range n).toArray wr := by
            refine ⟨enters_of (P := Try.prog) Try.func33 (by kernel_rfl) rfl, ?_, hrow, by simp, ltD_tr xs, by omega⟩
            intro m os dk hdk x y
            subst henc
            have hW : ∀ a : Addr, a.block < w.heap.size + 1 → (sortWorld (fun i : Nat => Value.int .i64 ((min i (n - 1) : Nat) : Int)) wr g 0 m dk os).cell? a = wr.cell? a := fun a ha => sw_cell (by omega) (by omega)
            have hsz : wr.heap.size ≤ (sortWorld (fun i : Nat => Value.int .i64 ((min i (n - 1) : Nat) : Int)) wr g 0 m dk os).heap.size := SW.le ⟨m, os, rfl⟩
            have := rankFn_any A n c w.heap.size xs (min x (n - 1)) (min y (n - 1)) _ Hn.out (by omega) (by omega) ((hW _ (by simp)).trans HXR.out) hm (((HRR.out.keep (fun q hq => hW q hq))).more (by omega))
            change Calls Try.prog 33 #[Value.int .i64 ((min x (n - 1) : Nat) : Int), Value.int .i64 ((min y (n - 1) : Nat) : Int), .pointer (some ⟨w.heap.size, 0, none⟩)] _ _
            refine this.mono ?_
            rintro e w' ⟨rfl, q, rfl⟩
            exact ⟨rfl, q, #[], by rw [grow_empty]⟩
          have hsort := sortStable_I hin cv (List.range n) wr (by simp) (by
            have h := HOK.out (fun i j => cmpN (xs.getD (min j (n - 1)) 0) (xs.getD (min i (n - 1)) 0)) (fun i j hi hj => by rw [Hn.out] at hi hj; show cmpN _ _ = _; rw [show min j (n - 1) = j by omega, show min i (n - 1) = i by omega])
            rwa [Hn.out] at h) hsl
          have HST := Lib.hid hsort
          have HHO := Lib.hid ho
          have HGB := Lib.hid (And.intro hgB hgl)
          have HEN := Lib.hid henc
          clear hsort hin hrow hsl ho henc hgl hgB hrv
          go_wp2_with fail
          refine HST.out.mono ?_
          rintro e w2 ⟨rfl, M, hM1, hM2, hM3⟩
          have hMl : M.length = n := by rw [hM1.length_eq]; simp
          have ho2 := own_sw HHO.out hMl hM3
          have hmap : M.map enc = (M.map (fun i : Nat => (i : Int))).map (Value.int .i64) := by
            rw [List.map_map, HEN.out]
            refine List.map_congr_left fun i hi => ?_
            have := List.mem_range.1 (hM1.mem_iff.1 hi)
            show Value.int .i64 _ = Value.int .i64 _
            rw [show min i (n - 1) = i by omega]
          rw [hmap] at ho2
          have HE : Hid (rankL xs = M) := Lib.hid (by unfold rankL; rw [Hn.out]; exact sortedOf_eq (ltD_as xs) hM1 hM2)
          have HO2 := Lib.hid (own_base ho2 (Nat.le_succ _))
          have hgr := grownBy_sw hM3
          have HB9 := Lib.hid (HB.out.grown hgr hwz (fun q hq => by injection hq with hq; rw [← hq]; exact HGB.out.1))
          have HML : Hid ((M.map (fun i : Nat => (i : Int))).length = n) := Lib.hid (by rw [List.length_map, hMl])
          clear hM1 hM2 hM3 hMl ho2 hmap hgr
          go_wp2
          go_ret2
          rw [HR.out.1, HR.out.2, HE.out]
          exact ⟨⟨_, _, by rw [HML.out]; rfl, by rw [HML.out]; exact HO2.out⟩, bthen HB0.out (by have h := HB9.out; rwa [HSZ.out])⟩
end Go.Proofs.Ytbojlgbkkdnegaa

-- Ranks of numbers, the reference's way.
namespace Go.Proofs.Ytbojlgbkkdnegaa
open Ieee Go.RowKit
theorem set_pair {D T : List Value} {x y : Value} {i j : Nat} (hi : i = D.length) (hj : j = D.length + 1) : ((D ++ x :: y :: T).set j x).set i y = D ++ y :: x :: T := by
  subst hi hj
  rw [List.set_append_right _ _ (by omega), show D.length + 1 - D.length = 1 by omega, List.set_cons_succ, List.set_cons_zero, List.set_append_right _ _ (Nat.le_refl _), Nat.sub_self, List.set_cons_zero]
theorem get_mid {D T : List Value} {x : Value} {i : Nat} (hi : i = D.length) : (D ++ x :: T)[i]? = some x := by
  subst hi
  simp
theorem rankR_len (xs : List Nat) (h : xs.length ≤ 1048576) : (rankR xs).length ≤ 1048576 := by
  unfold rankR
  split
  · rw [List.length_map]
    have := sortedOf_len (ltD xs) (List.range xs.length)
    rw [List.length_range] at this
    unfold rankL
    omega
  · simp
end Go.Proofs.Ytbojlgbkkdnegaa

-- GapsOf, the reference's way.
namespace Go.Proofs.Ytbojlgbkkdnegaa
open Ieee Go.RowKit
theorem range_drop {n k : Nat} (h : k < n) : (List.range n).drop k = k :: (List.range n).drop (k + 1) := by
  rw [List.drop_eq_getElem_cons (by simpa using h), List.getElem_range]
end Go.Proofs.Ytbojlgbkkdnegaa

-- Quotients and sums of logarithms that are no NaN.
namespace Go.Proofs.Ytbojlgbkkdnegaa
open Ieee Go.RowKit
theorem word_pos' {r : Nat} (hr1 : 8388608 ≤ r) (hr2 : r ≤ 2139095040) : FloatKind.f32.format.order (FloatKind.f32.format.word false r) 0 = some .gt := by
  obtain ⟨fa, fb, fc, fd⟩ := fmt32
  have hs : r < FloatKind.f32.format.signWeight := by
    have := FloatKind.f32.format.infRung_lt
    rw [fb] at this
    omega
  have hrd := read_word FloatKind.f32.format false hs
  rw [fa, fb, fc, if_neg (by omega)] at hrd
  by_cases hc : r < 2139095040
  · rw [if_pos hc] at hrd
    rw [order_sign .f32 hrd, if_neg (by omega), if_neg (by decide)]
  · rw [if_neg hc, if_pos (by omega)] at hrd
    rw [order_inf .f32 hrd]
    rfl
theorem nearest_pos {mag : Nat} {place : Int} (h0 : mag ≠ 0) (h : -126 ≤ place + mag.log2) : FloatKind.f32.format.order (FloatKind.f32.format.nearest false mag place) 0 = some .gt := by
  obtain ⟨fa, fb, fc, fd⟩ := fmt32
  obtain ⟨last, hlast⟩ : ∃ last, last = max (place + mag.log2 - 23) (-149) := ⟨_, rfl⟩
  have hl2 : last = place + mag.log2 - 23 := by omega
  have hk := kept_low 23 false mag place last h0 hl2
  obtain ⟨kept, hkept⟩ : ∃ kept, kept = Toward.even.cut false (mag <<< (place - last).toNat) (last - place).toNat := ⟨_, rfl⟩
  rw [← hkept] at hk
  have hk8 : 8388608 ≤ kept := hk
  clear hk
  obtain ⟨L, hL⟩ : ∃ L, L = (last - -149).toNat := ⟨_, rfl⟩
  obtain ⟨r, hr⟩ : ∃ r, r = min (L * 8388608 + kept) 2139095040 := ⟨_, rfl⟩
  have hn : FloatKind.f32.format.nearest false mag place = FloatKind.f32.format.word false r := by
    unfold Format.nearest
    rw [if_neg h0]
    dsimp only
    rw [fa, fb, fc, fd, show max (place + (mag.log2 : Int) - ((23 : Nat) : Int)) (-149) = last by omega, ← hkept, ← hL, ← hr]
  have hr1 : 8388608 ≤ r := by rw [hr]; exact Nat.le_min.2 ⟨Nat.le_trans hk8 (Nat.le_add_left _ _), by decide⟩
  have hr2 : r ≤ 2139095040 := by rw [hr]; exact Nat.min_le_right _ _
  rw [hn]
  exact word_pos' hr1 hr2
theorem key_log {m n : Nat} {i j : Int} (_hm : m ≠ 0) (hn : n ≠ 0) (hi : -149 ≤ i) (hj : -149 ≤ j) (h : n * 2 ^ (j + 149).toNat ≤ m * 2 ^ (i + 149).toNat) : j + n.log2 ≤ i + m.log2 := by
  have h1 : 2 ^ (n.log2 + (j + 149).toNat) ≤ n * 2 ^ (j + 149).toNat := by rw [Nat.pow_add]; exact Nat.mul_le_mul_right _ (pow_le hn)
  have h2 : m * 2 ^ (i + 149).toNat < 2 ^ (m.log2 + 1 + (i + 149).toNat) := by rw [Nat.pow_add]; exact Nat.mul_lt_mul_of_pos_right lt_pow (Nat.two_pow_pos _)
  have h3 := (Nat.pow_lt_pow_iff_right (a := 2) (by decide)).1 (Nat.lt_of_le_of_lt (Nat.le_trans h1 h) h2)
  omega
theorem quo_pos {x y : Nat} (hx : finB x = true) (hy : finB y = true) (gx : gtB x = true) (gy : gtB y = true) (hk : keyF y ≤ keyF x) :
    floatBits .quo .f32 x y = some (fop .quo .f32 x y) ∧ FloatKind.f32.format.order (fop .quo .f32 x y) 0 = some .gt := by
  obtain ⟨s, m, i, h1⟩ := fin_read hx
  obtain ⟨t, n, j, h2⟩ := fin_read hy
  obtain ⟨rfl, hm⟩ := order_num .f32 h1 (gtB_t gx)
  obtain ⟨rfl, hn⟩ := order_num .f32 h2 (gtB_t gy)
  have hi := read_place h1
  have hj := read_place h2
  have hkk : n * 2 ^ (j + 149).toNat ≤ m * 2 ^ (i + 149).toNat := by
    unfold keyF at hk
    rw [h1, h2] at hk
    dsimp only at hk
    unfold signed at hk
    rw [if_neg (by decide), if_neg (by decide), Nat.shiftLeft_eq, Nat.shiftLeft_eq] at hk
    exact_mod_cast hk
  have hlog := key_log hm hn hi hj hkk
  obtain ⟨more, hmore⟩ : ∃ more, more = 23 + 2 + n.log2 - m.log2 := ⟨_, rfl⟩
  obtain ⟨mag, hmag⟩ : ∃ mag, mag = 2 * ((m <<< more) / n) + ((m <<< more) % n != 0).toNat := ⟨_, rfl⟩
  have he : floatBits .quo .f32 x y = some (FloatKind.f32.format.nearest false mag (i - j - more - 1)) := by
    unfold floatBits Format.div
    dsimp only
    rw [h1, h2]
    unfold Datum.quotient
    dsimp only
    rw [if_neg hn, show FloatKind.f32.format.fractionBits = 23 from fmt32.2.2.2, ← hmore, ← hmag]
    rfl
  have hd : 2 ^ (m.log2 + more - n.log2 - 1) ≤ (m <<< more) / n := by
    rw [Nat.le_div_iff_mul_le (Nat.pos_of_ne_zero hn), Nat.shiftLeft_eq]
    have e1 : 2 ^ (m.log2 + more - n.log2 - 1) * n ≤ 2 ^ (m.log2 + more - n.log2 - 1) * 2 ^ (n.log2 + 1) := Nat.mul_le_mul_left _ (Nat.le_of_lt lt_pow)
    refine Nat.le_trans e1 ?_
    rw [← Nat.pow_add]
    refine Nat.le_trans (Nat.pow_le_pow_right (by decide) (show m.log2 + more - n.log2 - 1 + (n.log2 + 1) ≤ m.log2 + more by omega)) ?_
    rw [Nat.pow_add]
    exact Nat.mul_le_mul_right _ (pow_le hm)
  have hml : 2 ^ (m.log2 + more - n.log2) ≤ mag := by
    have e : 2 ^ (m.log2 + more - n.log2) = 2 * 2 ^ (m.log2 + more - n.log2 - 1) := by
      rw [show m.log2 + more - n.log2 = (m.log2 + more - n.log2 - 1) + 1 by omega, Nat.pow_succ, Nat.mul_comm]
      rfl
    rw [e, hmag]
    omega
  have hm0 : mag ≠ 0 := by have := Nat.two_pow_pos (m.log2 + more - n.log2); omega
  have hlg : m.log2 + more - n.log2 ≤ mag.log2 := (Nat.le_log2 hm0).2 hml
  refine ⟨by rw [fop_some he]; exact he, ?_⟩
  rw [fop_some he]
  exact nearest_pos hm0 (by omega)
theorem nearest_bound2 (s : Bool) {mag K : Nat} {place : Int} (hp : -149 ≤ place) (hK : K < 512) (h : mag * 2 ^ (place + 149).toNat ≤ K * 2 ^ 236) : Bd (FloatKind.f32.format.nearest s mag place) (K * 2 ^ 236) := by
  obtain ⟨fa, fb, fc, fd⟩ := fmt32
  by_cases h0 : mag = 0
  · subst h0
    refine ⟨s, 0, -149, ?_, Int.le_refl _, by simp⟩
    unfold Format.nearest
    rw [if_pos rfl, read_word _ s (by decide), if_pos (by decide)]
    rfl
  · have hlg : mag.log2 + (place + 149).toNat < 245 := by
      have h1 : 2 ^ mag.log2 * 2 ^ (place + 149).toNat ≤ mag * 2 ^ (place + 149).toNat := Nat.mul_le_mul_right _ (pow_le h0)
      have h2 : K * 2 ^ 236 < 2 ^ 9 * 2 ^ 236 := Nat.mul_lt_mul_of_pos_right (by omega) (Nat.two_pow_pos _)
      rw [← Nat.pow_add] at h1 h2
      exact (Nat.pow_lt_pow_iff_right (by decide)).1 (Nat.lt_of_le_of_lt (Nat.le_trans h1 h) h2)
    obtain ⟨last, hlast⟩ : ∃ last, last = max (place + mag.log2 - 23) (-149) := ⟨_, rfl⟩
    obtain ⟨L, hL⟩ : ∃ L : Nat, last = (L : Int) - 149 := ⟨(last + 149).toNat, by omega⟩
    have hL2 : L ≤ 221 := by omega
    obtain ⟨kept, hk⟩ : ∃ kept, kept = Toward.even.cut s (mag <<< (place - last).toNat) (last - place).toNat := ⟨_, rfl⟩
    have hup : kept ≤ 2 ^ 24 := by rw [hk]; exact kept_le 23 s mag place last h0 (by omega)
    have hbd : kept * 2 ^ L ≤ K * 2 ^ 236 := by
      by_cases hlp : last ≤ place
      · have e1 : (last - place).toNat = 0 := by omega
        have hc : kept ≤ mag * 2 ^ (place - last).toNat := by
          rw [hk, e1, Nat.shiftLeft_eq]
          exact cut_up s (by rw [Nat.pow_zero, Nat.mul_one]; exact Nat.le_refl _)
        refine Nat.le_trans (Nat.mul_le_mul_right _ hc) ?_
        rw [Nat.mul_assoc, ← Nat.pow_add, show (place - last).toNat + L = (place + 149).toNat by omega]
        exact h
      · have e1 : (place - last).toNat = 0 := by omega
        have hc : kept ≤ K * 2 ^ (236 - L) := by
          rw [hk, e1, Nat.shiftLeft_zero]
          refine cut_up s ?_
          rw [Nat.mul_assoc, ← Nat.pow_add]
          refine Nat.le_of_mul_le_mul_right (c := 2 ^ (place + 149).toNat) ?_ (Nat.two_pow_pos _)
          rw [Nat.mul_assoc, ← Nat.pow_add, show 236 - L + (last - place).toNat + (place + 149).toNat = 236 by omega]
          exact h
        refine Nat.le_trans (Nat.mul_le_mul_right _ hc) ?_
        rw [Nat.mul_assoc, ← Nat.pow_add, show 236 - L + L = 236 by omega]
        exact Nat.le_refl _
    have hlow : 0 < L → 2 ^ 23 ≤ kept := fun h => by rw [hk]; exact kept_low 23 s mag place last h0 (by omega)
    have hn : FloatKind.f32.format.nearest s mag place = FloatKind.f32.format.word s (L * 8388608 + kept) := by
      unfold Format.nearest
      rw [if_neg h0]
      dsimp only
      rw [fa, fb, fc, fd, show max (place + (mag.log2 : Int) - ((23 : Nat) : Int)) (-149) = last by omega, ← hk, show (last - -149).toNat = L by omega, Nat.min_eq_left (by omega)]
    rw [hn]
    unfold Bd
    rw [read_word _ s (by have := FloatKind.f32.format.infRung_lt; rw [fb] at this; omega), fa, fb, fc]
    by_cases h1 : L * 8388608 + kept < 8388608
    · rw [if_pos h1]
      obtain rfl : L = 0 := by omega
      refine ⟨_, _, _, rfl, Int.le_refl _, ?_⟩
      simpa using hbd
    · rw [if_neg h1, if_pos (by omega)]
      refine ⟨_, _, _, rfl, by omega, ?_⟩
      refine Nat.le_trans (Nat.le_of_eq ?_) hbd
      have hcase : kept < 16777216 ∨ kept = 16777216 := by omega
      have hk8 : 8388608 ≤ kept := by
        by_cases hL0 : 0 < L
        · exact hlow hL0
        · omega
      rcases hcase with hc | hc
      · have e1 : (L * 8388608 + kept) / 8388608 = L + 1 := by omega
        have e2 : (L * 8388608 + kept) % 8388608 = kept - 8388608 := by omega
        rw [e1, e2, show 8388608 + (kept - 8388608) = kept by omega, show (-149 + ((L + 1 - 1 : Nat) : Int) + 149).toNat = L by omega]
      · have e1 : (L * 8388608 + kept) / 8388608 = L + 2 := by omega
        have e2 : (L * 8388608 + kept) % 8388608 = 0 := by omega
        rw [e1, e2, hc, show (-149 + ((L + 2 - 1 : Nat) : Int) + 149).toNat = L + 1 by omega, Nat.pow_succ]
        omega
theorem bd_add2 {x y K1 K2 : Nat} (hx : Bd x (K1 * 2 ^ 236)) (hy : Bd y (K2 * 2 ^ 236)) (hK : K1 + K2 < 512) : Bd (fop .add .f32 x y) ((K1 + K2) * 2 ^ 236) := by
  obtain ⟨s, m, p, h1, hp, hm⟩ := hx
  obtain ⟨t, n, q, h2, hq, hn⟩ := hy
  obtain ⟨base, hb⟩ : ∃ base, base = min p q := ⟨_, rfl⟩
  obtain ⟨total, ht⟩ : ∃ total, total = signed s m (p - base).toNat + signed t n (q - base).toNat := ⟨_, rfl⟩
  have he : floatBits .add .f32 x y = some (FloatKind.f32.format.nearest (if total = 0 then s && t else total < 0) total.natAbs base) := by
    unfold floatBits Format.add
    dsimp only
    rw [h1, h2]
    unfold Datum.sum
    dsimp only
    rw [← hb, ← ht]
    rfl
  rw [fop_some he]
  refine nearest_bound2 _ (by omega) hK ?_
  have h3 : total.natAbs ≤ m * 2 ^ (p - base).toNat + n * 2 ^ (q - base).toNat := by
    rw [ht]
    refine Nat.le_trans (Int.natAbs_add_le _ _) ?_
    rw [signed_abs, signed_abs]
    exact Nat.le_refl _
  refine Nat.le_trans (Nat.mul_le_mul_right _ h3) ?_
  rw [Nat.add_mul, Nat.add_mul, Nat.mul_assoc, Nat.mul_assoc, ← Nat.pow_add, ← Nat.pow_add, show (p - base).toNat + (base + 149).toNat = (p + 149).toNat by omega, show (q - base).toNat + (base + 149).toNat = (q + 149).toNat by omega]
  exact Nat.add_le_add hm hn
theorem logC_bd {c : Nat} (hf : finB c = true) (ho : FloatKind.f32.format.order c 0 = some .gt) : Bd (logC c) (1 * 2 ^ 236) := by
  have hp := pos_of hf ho
  obtain ⟨h1, h2, _⟩ := pos_range hp
  have hfit := logW_fits _ ⟨h1, h2⟩
  have hw := (logC_pos hp).1
  obtain ⟨s, m, p, he, hmp⟩ := hfit
  have hfit2 : Fits (.number s m p) 85 := ⟨s, m, p, rfl, hmp⟩
  have hwr : logC c = FloatKind.f32.format.write (.number s m p) := by
    unfold floatToFloatBits at hw
    rw [if_neg (by decide), show FloatKind.f64.decode (logW (wid c)) = .number s m p from he] at hw
    dsimp only at hw
    split at hw
    · cases hw
    · exact (Option.some.inj hw).symm
  have h3 := fits_enc .f32 hfit2 (by decide) (by decide)
  rw [← hwr] at h3
  obtain ⟨s', m', p', he', hmp'⟩ := h3
  have hpl := read_place he'
  refine ⟨s', m', p', he', hpl, ?_⟩
  rw [Nat.one_mul]
  rcases hmp' with h0 | h0
  · rw [h0]; simp
  · have h4 : m' * 2 ^ (p' + 149).toNat < 2 ^ (m'.log2 + 1) * 2 ^ (p' + 149).toNat := Nat.mul_lt_mul_of_pos_right lt_pow (Nat.two_pow_pos _)
    rw [← Nat.pow_add] at h4
    exact Nat.le_trans (Nat.le_of_lt h4) (Nat.pow_le_pow_right (by decide) (by omega))
/-- a number of a size, or infinity -/
def SV (k z : Nat) : Prop := Bd z (k * 2 ^ 236) ∨ z = 2139095040
theorem inf_num : nanF .f32 2139095040 = false := by decide
theorem SV.num {k z : Nat} (h : SV k z) : nanF .f32 z = false := by
  rcases h with h | h
  · exact fin_num h.fin
  · subst h; exact inf_num
theorem logX_sv {c : Nat} (hn : nanF .f32 c = false) (ho : FloatKind.f32.format.order c 0 = some .gt) : SV 1 (logX c) := by
  cases hf : finB c
  · right
    unfold logX
    rw [hn, if_neg (by decide), ho, if_neg (by decide), if_neg (by decide), hf]
    rfl
  · left
    rw [logX_pos hf ho]
    exact logC_bd hf ho
theorem inf_sum {x y : Nat} (hx : x = 2139095040 ∨ y = 2139095040) (h1 : x = 2139095040 ∨ finB x = true) (h2 : y = 2139095040 ∨ finB y = true) : floatBits .add .f32 x y = some 2139095040 := by
  have hr : FloatKind.f32.format.read 2139095040 = .infinity false := by decide
  have hw : FloatKind.f32.format.write (.infinity false) = 2139095040 := by decide
  have key : ∀ d e : Datum, d.sum e = some (.infinity false) → FloatKind.f32.format.read x = d → FloatKind.f32.format.read y = e → floatBits .add .f32 x y = some 2139095040 := by
    intro d e h hd he
    unfold floatBits Format.add
    dsimp only
    rw [hd, he, h]
    exact congrArg some hw
  rcases h1 with rfl | h1
  · rcases h2 with rfl | h2
    · exact key _ _ rfl hr hr
    · obtain ⟨s, m, p, h3⟩ := fin_read h2
      exact key _ _ rfl hr h3
  · rcases h2 with rfl | h2
    · obtain ⟨s, m, p, h3⟩ := fin_read h1
      exact key _ _ rfl h3 hr
    · exfalso
      rcases hx with rfl | rfl
      · exact absurd h1 (by rw [not_fin_inf hr]; decide)
      · exact absurd h2 (by rw [not_fin_inf hr]; decide)
theorem SV.fin' {k z : Nat} (h : SV k z) : z = 2139095040 ∨ finB z = true := h.elim (fun h => .inr h.fin) .inl
theorem sv_add {k z l : Nat} (hz : SV k z) (hl : SV 1 l) (hk : k + 1 < 512) : floatBits .add .f32 z l = some (fop .add .f32 z l) ∧ SV (k + 1) (fop .add .f32 z l) := by
  by_cases hc : z = 2139095040 ∨ l = 2139095040
  · have h := inf_sum hc hz.fin' hl.fin'
    rw [fop_some h]
    exact ⟨h, .inr rfl⟩
  · have h1 : Bd z (k * 2 ^ 236) := hz.resolve_right (fun h => hc (.inl h))
    have h2 : Bd l (1 * 2 ^ 236) := hl.resolve_right (fun h => hc (.inr h))
    exact ⟨(add_num (fin_num h1.fin) h2.fin).1, .inl (bd_add2 h1 h2 hk)⟩
end Go.Proofs.Ytbojlgbkkdnegaa

-- TailSlope told over lists; the program's way.
namespace Go.Proofs.Ytbojlgbkkdnegaa
open Ieee Go.Shelf Go.RowKit Go.Lib Go.Sort
theorem ins_ex {lt : Nat → Nat → Prop} (tr : ∀ x y z, lt x y → lt y z → lt x z) (tot : ∀ x y, x ≠ y → lt x y ∨ lt y x) (x : Nat) : ∀ D : List Nat, D.Pairwise lt → x ∉ D → ∃ M : List Nat, M.Perm (x :: D) ∧ M.Pairwise lt := by
  intro D
  induction D with
  | nil => intro _ _; exact ⟨[x], .refl _, List.pairwise_singleton _ _⟩
  | cons a D ih =>
    intro hD hx
    obtain ⟨h1, h2⟩ := List.pairwise_cons.1 hD
    rcases tot x a (fun e => hx (by rw [e]; exact List.mem_cons_self)) with h | h
    · refine ⟨x :: a :: D, .refl _, List.pairwise_cons.2 ⟨fun z hz => ?_, hD⟩⟩
      rcases List.mem_cons.1 hz with rfl | hz
      · exact h
      · exact tr _ _ _ h (h1 z hz)
    · obtain ⟨M, hM1, hM2⟩ := ih h2 (fun hh => hx (List.mem_cons_of_mem _ hh))
      refine ⟨a :: M, (hM1.cons a).trans (List.Perm.swap x a D), List.pairwise_cons.2 ⟨fun z hz => ?_, hM2⟩⟩
      rcases List.mem_cons.1 (hM1.mem_iff.1 hz) with rfl | hz
      · exact h
      · exact h1 z hz
theorem sorted_ex {lt : Nat → Nat → Prop} (tr : ∀ x y z, lt x y → lt y z → lt x z) (tot : ∀ x y, x ≠ y → lt x y ∨ lt y x) : ∀ ts : List Nat, ts.Nodup → ∃ M : List Nat, M.Perm ts ∧ M.Pairwise lt := by
  intro ts
  induction ts with
  | nil => intro _; exact ⟨[], .refl _, .nil⟩
  | cons x ts ih =>
    intro h
    obtain ⟨h1, h2⟩ := List.nodup_cons.1 h
    obtain ⟨D, hD1, hD2⟩ := ih h2
    obtain ⟨M, hM1, hM2⟩ := ins_ex tr tot x D hD2 (fun hh => h1 (hD1.mem_iff.1 hh))
    exact ⟨M, hM1.trans (hD1.cons x), hM2⟩
theorem rank_spec (xs : List Nat) : (rankL xs).Perm (List.range xs.length) ∧ (rankL xs).Pairwise (ltD xs) := by
  obtain ⟨M, h1, h2⟩ := sorted_ex (ltD_tr xs) (fun x y h => by unfold ltD; omega) (List.range xs.length) List.nodup_range
  unfold rankL
  rw [sortedOf_eq (ltD_as xs) h1 h2]
  exact ⟨h1, h2⟩
/-- the numbers downwards -/
noncomputable def srtD (xs : List Nat) : List Nat := (rankL xs).map fun i => xs.getD i 0
theorem srtD_len (xs : List Nat) : (srtD xs).length = xs.length := by unfold srtD; rw [List.length_map, (rank_spec xs).1.length_eq]; simp
def tailQ (sl : List Nat) (cnt i : Nat) : Nat := fop .quo .f32 (sl.getD i 0) (sl.getD cnt 0)
def tailS (sl : List Nat) (cnt k : Nat) : Nat := sumF ((List.range k).map fun i => logX (tailQ sl cnt i))
theorem tailS_up (sl : List Nat) (cnt k : Nat) : tailS sl cnt (k + 1) = fop .add .f32 (tailS sl cnt k) (logX (tailQ sl cnt k)) := by
  unfold tailS
  rw [List.range_succ, List.map_append]
  exact sumF_snoc _ _
def tailIn (xs : List Nat) (z : Int) : Bool := listB xs && (inB z 1 ((xs.length : Int) - 1) && !(xs.any fun x => !gtB x))
def tailC (sl : List Nat) (z : Int) : Nat := fop .quo .f32 (floatOfInt .f32 z) (tailS sl z.toNat z.toNat)
noncomputable def tailOk (xs : List Nat) (z : Int) : Bool := tailIn xs z && gtB (tailS (srtD xs) z.toNat z.toNat)
noncomputable def tailR (xs : List Nat) (z : Int) : Nat := if tailOk xs z = true then numV (tailC (srtD xs) z) else 0
noncomputable def tailB (xs : List Nat) (z : Int) : Bool := if tailOk xs z = true then finB (tailC (srtD xs) z) else false
theorem tailR_num (xs : List Nat) (z : Int) : nanF .f32 (tailR xs z) = false := by
  unfold tailR
  split
  · exact numV_num _
  · exact num_zero
theorem tail_no {xs : List Nat} {z : Int} (h : tailOk xs z = false) : tailR xs z = 0 ∧ tailB xs z = false := by
  unfold tailR tailB
  rw [h]
  exact ⟨rfl, rfl⟩
theorem tail_no' {xs : List Nat} {z : Int} (h : tailIn xs z = false) : tailR xs z = 0 ∧ tailB xs z = false := tail_no (by unfold tailOk; rw [h]; rfl)
theorem srtD_get {xs : List Nat} {i : Nat} (hi : i < xs.length) : ∃ j, j < xs.length ∧ (rankL xs)[i]? = some j ∧ (srtD xs).getD i 0 = xs.getD j 0 := by
  have hl : (rankL xs).length = xs.length := by rw [(rank_spec xs).1.length_eq]; simp
  have hi' : i < (rankL xs).length := by omega
  refine ⟨(rankL xs)[i], List.mem_range.1 ((rank_spec xs).1.mem_iff.1 (List.getElem_mem hi')), List.getElem?_eq_getElem hi', ?_⟩
  unfold srtD
  rw [List.getD_eq_getElem?_getD, List.getElem?_map, List.getElem?_eq_getElem hi']
  rfl
theorem gt_get {xs : List Nat} (h : xs.any (fun x => !gtB x) = false) {j : Nat} (hj : j < xs.length) : gtB (xs.getD j 0) = true := by
  rw [List.any_eq_false] at h
  have := h xs[j] (List.getElem_mem hj)
  rw [List.getD_eq_getElem?_getD, List.getElem?_eq_getElem hj]
  simpa using this
/-- a quotient of two of the numbers, the second not the greater -/
theorem tail_q {xs : List Nat} (hf : finL xs = true) (hp : xs.any (fun x => !gtB x) = false) {cnt i : Nat} (hi : i ≤ cnt) (hc : cnt < xs.length) :
    floatBits .quo .f32 ((srtD xs).getD i 0) ((srtD xs).getD cnt 0) = some (tailQ (srtD xs) cnt i) ∧ FloatKind.f32.format.order (tailQ (srtD xs) cnt i) 0 = some .gt := by
  obtain ⟨a, ha, ha2, ha3⟩ := srtD_get (xs := xs) (i := i) (by omega)
  obtain ⟨b, hb, hb2, hb3⟩ := srtD_get (xs := xs) (i := cnt) hc
  unfold tailQ
  rw [ha3, hb3]
  refine quo_pos (fin_get (finL_mem hf) a) (fin_get (finL_mem hf) b) (gt_get hp ha) (gt_get hp hb) ?_
  rcases Nat.lt_or_eq_of_le hi with h | h
  · obtain ⟨ia, ea⟩ := List.getElem?_eq_some_iff.1 ha2
    obtain ⟨ib, eb⟩ := List.getElem?_eq_some_iff.1 hb2
    have := pair_get (rank_spec xs).2 ia ib h
    rw [ea, eb] at this
    unfold ltD keyAt at this
    omega
  · subst h
    rw [ha2] at hb2
    cases hb2
    exact Int.le_refl _
theorem tail_log {xs : List Nat} (hf : finL xs = true) (hp : xs.any (fun x => !gtB x) = false) {cnt i : Nat} (hi : i ≤ cnt) (hc : cnt < xs.length) : SV 1 (logX (tailQ (srtD xs) cnt i)) := by
  have h := (tail_q hf hp hi hc).2
  refine logX_sv ?_ h
  cases hn : nanF .f32 (tailQ (srtD xs) cnt i)
  · rfl
  · rw [(order_nan hn 0).1] at h; cases h
set_option maxHeartbeats 1000000 in
theorem tailFn_any (x : Nat) (W : World) : Calls Try.prog 41 #[.float .f32 x] W fun e w' => e = .returned (.bool (!gtB x)) ∧ Below W.heap.size W w' := by
  cases hg : gtB x
  · have ho : (FloatKind.f32.format.order x 0 == some .gt) = false := hg
    go_enter Try.func41, Try.ntmps41
    go_wp2
    go_ret
    exact ⟨rfl, Below.refl _ _⟩
  · have ho : (FloatKind.f32.format.order x 0 == some .gt) = true := hg
    go_enter Try.func41, Try.ntmps41
    go_wp2
    go_ret
    exact ⟨rfl, Below.refl _ _⟩
set_option maxHeartbeats 1000000 in
theorem tailCmp_any (a b : Nat) (W : World) : Calls Try.prog 44 #[.float .f32 a, .float .f32 b] W fun e w' => e = .returned (.int .i64 (cmpN b a)) ∧ w' = W := by
  go_enter Try.func44, Try.ntmps44
  go_wp2_with fail
  refine (compareNumbers_any b a _).mono ?_
  rintro e w' ⟨rfl, rfl⟩
  go_wp2
  go_ret
  exact ⟨rfl, rfl⟩
set_option maxHeartbeats 1000000 in
/-- a list of floats sorted downwards -/
theorem sortDown_any {w : World} {B g cap n : Nat} {xs : List Nat} (hn : xs.length = n) (hm : n ≤ 1048576) (hf : finL xs = true) (ho : w.ownsRow B 25 1 (.slice (some ⟨g, 0, none⟩) n cap) n (xs.map (Value.float .f32))) :
    Calls Try.prog 43 #[.slice (some ⟨g, 0, none⟩) n cap, .func (.func 44) #[] #[]] w fun e w' => e = .returned (.tuple #[]) ∧ w'.ownsRow B 25 1 (.slice (some ⟨g, 0, none⟩) n cap) n ((srtD xs).map (Value.float .f32)) ∧ Below B w w' := by
  obtain ⟨enc, henc⟩ : ∃ enc : Nat → Value, enc = fun i => Value.float .f32 (xs.getD i 0) := ⟨_, rfl⟩
  have ho' : w.ownsRow B 25 1 (.slice (some ⟨g, 0, none⟩) n cap) n ((List.range n).map enc) := by rw [henc, ← hn, vals_map, hn]; exact ho
  obtain ⟨hrow, hsl, hgB⟩ := row_sw ho' (by rw [henc]; exact fun i => rfl)
  have hin : SortIn enc (fun i j => cmpN (xs.getD j 0) (xs.getD i 0)) (ltD xs) 44 #[] g 0 n (List.range n).toArray w := by
    refine ⟨enters_of (P := Try.prog) Try.func44 (by kernel_rfl) rfl, ?_, hrow, by simp, ltD_tr xs, by omega⟩
    intro m os dk hdk x y
    subst henc
    change Calls Try.prog 44 #[.float .f32 (xs.getD x 0), .float .f32 (xs.getD y 0)] _ _
    refine (tailCmp_any _ _ _).mono ?_
    rintro e w' ⟨rfl, rfl⟩
    exact ⟨rfl, 0, #[], by rw [grow_empty]; rfl⟩
  have hok := rank_ok xs hf (fun i j => cmpN (xs.getD j 0) (xs.getD i 0)) (fun i j _ _ => rfl)
  rw [hn] at hok
  refine (sortStable_F hin cap (List.range n) w (by simp) hok hsl).mono ?_
  rintro e w' ⟨rfl, M, h1, h2, h3⟩
  have hMl : M.length = n := by rw [h1.length_eq]; simp
  have hE : rankL xs = M := by unfold rankL; rw [hn]; exact sortedOf_eq (ltD_as xs) h1 h2
  have ho2 := own_sw ho' hMl h3
  refine ⟨rfl, ?_, ?_⟩
  · unfold srtD
    rw [hE, List.map_map]
    rw [henc] at ho2
    exact ho2
  · exact (Below.refl B w).grown (grownBy_sw h3) (by have := hrow.hblk; omega) (fun q hq => by injection hq with hq; rw [← hq]; exact hgB)
set_option maxHeartbeats 8000000 in
set_option maxRecDepth 100000 in
theorem tailSlope_any (A : Option Addr) (n c : Nat) (xs : List Nat) (z : Int) (w : World) (hn : xs.length = n) (hm : n ≤ 1048576) (hr : Rd w w.heap.size A (xs.map (Value.float .f32))) (hz : -9223372036854775808 ≤ z ∧ z ≤ 9223372036854775807) :
    Calls Try.prog 14 #[.slice A n c, .int .i64 z] w fun e w' => e = .returned (.tuple #[.float .f32 (tailR xs z), .bool (tailB xs z)]) ∧ Below w.heap.size w w' := by
  have c1 := isList_any A n c xs w hn hm hr
  cases hl : listB xs
  · rw [hl] at c1
    have HO := Lib.hid (tail_no' (xs := xs) (z := z) (by unfold tailIn; rw [hl]; rfl))
    have HC1 := Lib.hid c1
    clear c1 hl hr hn
    go_enter Try.func14, Try.ntmps14
    go_wp2_with fail
    refine HC1.out.mono ?_
    rintro e w1 ⟨rfl, hb⟩
    have B1 := Lib.hid hb
    clear hb
    go_wp2
    go_ret2
    rw [HO.out.1, HO.out.2]
    exact ⟨rfl, B1.out⟩
  · rw [hl] at c1
    have c2 := fun W => within_any z 1 ((n : Int) - 1) W
    have HC1 := Lib.hid c1
    have eg := enters_of (P := Try.prog) Try.func41 (by kernel_rfl) rfl
    cases hi : inB z 1 ((n : Int) - 1)
    · rw [hi] at c2
      have HO := Lib.hid (tail_no' (xs := xs) (z := z) (by unfold tailIn; rw [hn, hi]; simp))
      have HC2 := Lib.hid c2
      clear c1 c2 hl hr hn hi eg
      go_enter Try.func14, Try.ntmps14
      go_wp2_with fail
      refine HC1.out.mono ?_
      rintro e w1 ⟨rfl, hb⟩
      have B1 := Lib.hid hb
      clear hb
      go_wp2_with fail
      refine (HC2.out _).mono ?_
      rintro e w' ⟨rfl, rfl⟩
      go_wp2
      go_ret2
      rw [HO.out.1, HO.out.2]
      exact ⟨rfl, B1.out⟩
    · rw [hi] at c2
      have HC2 := Lib.hid c2
      have c3 := fun (W : World) (hb : Below w.heap.size w W) => containsFunc_f32 41 #[] eg (fun x => !gtB x) A n c xs W hn (by omega) (hr.next hb) (fun V x _ _ => by simpa using tailFn_any x V)
      cases hp : xs.any (fun x => !gtB x)
      · rw [hp] at c3
        obtain ⟨hlo, hhi⟩ : 1 ≤ z ∧ z ≤ (n : Int) - 1 := by simpa [inB] using hi
        obtain ⟨cnt, rfl⟩ : ∃ cnt : Nat, z = (cnt : Int) := ⟨z.toNat, by omega⟩
        have hc1 : 1 ≤ cnt := by omega
        have hcn : cnt < n := by omega
        obtain ⟨hn256, hfin⟩ := listB_len hl
        have HIN : Hid (tailOk xs (cnt : Int) = gtB (tailS (srtD xs) cnt cnt)) := Lib.hid (by unfold tailOk tailIn; rw [hl, hn, hi, hp]; rfl)
        have HTC : Hid (tailC (srtD xs) (cnt : Int) = fop .quo .f32 (floatOfInt .f32 (cnt : Int)) (tailS (srtD xs) cnt cnt)) := Lib.hid rfl
        have HTQ := Lib.hid (fun (i : Nat) (h : i ≤ cnt) => tail_q hfin hp h (by rw [hn]; exact hcn))
        have HTL := Lib.hid (fun (i : Nat) (h : i ≤ cnt) => tail_log hfin hp h (by rw [hn]; exact hcn))
        obtain ⟨ad, hA⟩ : ∃ ad, A = some ad := by
          obtain ⟨ad, h, _⟩ := hr.at_ (k := 0) (by rw [List.length_map]; omega)
          exact ⟨ad, h⟩
        subst hA
        have HC3 := Lib.hid c3
        have HCL := Lib.hid (fun (W : World) (hb : Below w.heap.size w W) => cloneF_any ad n c xs W hn hm (hr.next hb))
        have HSO := Lib.hid (fun (W : World) (B g cap : Nat) ho => sortDown_any (w := W) (B := B) (g := g) (cap := cap) hn hm hfin ho)
        have HSL : Hid ((srtD xs).length = n) := Lib.hid (by rw [srtD_len, hn])
        have hcv := fun (n : Int) (w : World) => run_convert_int_float (P := Try.prog) w 2 25 .i64 .f32 n (by rw [Try.underlying2]; rfl) Try.underlying25
        rw [hn] at hn256
        obtain ⟨sl, hsl⟩ : ∃ sl, sl = srtD xs := ⟨_, rfl⟩
        have HSE := Lib.hid hsl
        rw [← hsl] at HIN HTC HTQ HTL HSL
        clear c1 c2 c3 hl hi hp hn hr hfin hlo hhi eg hsl
        go_enter Try.func14, Try.ntmps14
        go_wp2_with fail
        refine HC1.out.mono ?_
        rintro e w1 ⟨rfl, hb⟩
        have B1 := Lib.hid hb
        have HC4 := Lib.hid (HC3.out w1 hb)
        clear hb
        go_wp2_with fail
        refine (HC2.out _).mono ?_
        rintro e w' ⟨rfl, rfl⟩
        go_wp2_with fail
        refine HC4.out.mono ?_
        rintro e w2 ⟨rfl, hb⟩
        have B2 := Lib.hid (bthen B1.out hb)
        clear hb
        go_wp2_with fail
        refine (HCL.out w2 B2.out).mono ?_
        rintro e w3 ⟨⟨g, cp, rfl, ho⟩, hb⟩
        have B3 := Lib.hid (bthen B2.out hb)
        have HO2 := Lib.hid (HSO.out w3 _ g cp ho)
        have hz23 := B2.out.size
        clear ho hb
        go_wp2_with fail
        refine HO2.out.mono ?_
        rintro e w4 ⟨rfl, ho, hb⟩
        have B4 := Lib.hid (B3.out.trans (hb.mono hz23))
        rw [← HSE.out] at ho
        have hcap : n ≤ cp := by
          rcases ho.2 with ⟨hv, h0⟩ | ⟨g', cap', cur, hv, _, _, h1, _⟩
          · cases hv
          · injection hv with _ _ e3; omega
        have HRS := Lib.hid (Rd.own ho)
        have hcz : (cnt : Int) ≤ (cp : Int) := by omega
        clear ho hb
        go_wp2_with fail
        go_loopw [7, 33] (fun s i wr => ∃ (k sm : Nat), k ≤ cnt ∧ i = .int .i64 k ∧ s = .float .f32 sm ∧ Hid (sm = tailS sl cnt k ∧ SV k sm) ∧ ∃ m, wr = w4.drewN m) (fun _ i _ => cnt - (intOf i).toNat)
        case atStart => exact ⟨0, 0, Nat.zero_le _, rfl, rfl, Lib.hid ⟨rfl, .inl ⟨false, 0, -149, by decide, Int.le_refl _, by simp⟩⟩, 0, rfl⟩
        case round =>
          obtain ⟨k, sm, hk, rfl, rfl, HSM, hq⟩ := hrel
          have HQ := Lib.hid hq
          by_cases hlt : k < cnt
          · have hkz : (k : Int) < (cnt : Int) := by omega
            have hka : k < sl.length := by rw [HSL.out]; omega
            have hkb : cnt < sl.length := by rw [HSL.out]; omega
            obtain ⟨ad2, had2, _, hck⟩ := HRS.out.at_ (k := k) (by rw [List.length_map]; exact hka)
            obtain ⟨ad3, had3, _, hcc⟩ := HRS.out.at_ (k := cnt) (by rw [List.length_map]; exact hkb)
            cases had2
            cases had3
            rw [List.getElem_map, add_zero_off, show sl[k] = sl.getD k 0 by rw [List.getD_eq_getElem?_getD, List.getElem?_eq_getElem hka]; rfl] at hck
            rw [List.getElem_map, add_zero_off, show sl[cnt] = sl.getD cnt 0 by rw [List.getD_eq_getElem?_getD, List.getElem?_eq_getElem hkb]; rfl] at hcc
            have hq1 := HTQ.out k (by omega)
            have p1 := run_num (P := Try.prog) hq1.1
            have e1 := cell_drw hq hck
            have e2 := cell_drw hq hcc
            have HLG := Lib.hid (fun W => logNumber_all (tailQ sl cnt k) (tailQ sl cnt k) W (good_quo _ _) (.refl _ _))
            have hsv := sv_add HSM.out.2 (HTL.out k (by omega)) (by omega)
            have HLN := Lib.hid (HTL.out k (by omega)).num
            have p2 := run_num (P := Try.prog) hsv.1
            have HUP : Hid (fop .add .f32 sm (logX (tailQ sl cnt k)) = tailS sl cnt (k + 1)) := Lib.hid (by rw [tailS_up, HSM.out.1])
            have HSV := Lib.hid hsv.2
            obtain ⟨x, hx⟩ : ∃ x, x = sl.getD k 0 := ⟨_, rfl⟩
            obtain ⟨y, hy⟩ : ∃ y, y = sl.getD cnt 0 := ⟨_, rfl⟩
            obtain ⟨q, hqq⟩ : ∃ q, q = tailQ sl cnt k := ⟨_, rfl⟩
            rw [← hx] at e1 p1
            rw [← hy] at e2 p1
            rw [← hqq] at p1 p2 HLG HLN HUP HSV
            obtain ⟨lg, hlg⟩ : ∃ lg, lg = logX q := ⟨_, rfl⟩
            rw [← hlg] at p2 HLG HLN HUP HSV
            clear hx hy hqq hlg hck hcc hq hq1 hsv
            go_wp2_with fail
            refine (HLG.out _).mono ?_
            rintro e w' ⟨⟨r, rfl, hr⟩, hq2⟩
            obtain rfl := hr.eq HLN.out
            have HQ2 := Lib.hid (drw_trans HQ.out hq2)
            clear hr hq2 e1 e2 p1
            go_wp2
            go_roundw
            case rel => exact ⟨k + 1, _, by omega, by go_num, rfl, Lib.hid ⟨HUP.out, HSV.out⟩, HQ2.out⟩
            case measure => simp [intOf]; omega
          · obtain rfl : cnt = k := by omega
            have BR := Lib.hid (below_drw B4.out hq)
            have hs1 := HSM.out.1
            clear hq
            cases hg : gtB (tailS sl cnt cnt)
            · have ho : (FloatKind.f32.format.order sm 0 == some .gt) = false := by rw [hs1]; exact hg
              have HO := Lib.hid (tail_no (xs := xs) (z := (cnt : Int)) (HIN.out.trans hg))
              clear hs1 hg
              go_wp2
              go_ret2
              rw [HO.out.1, HO.out.2]
              exact ⟨rfl, BR.out⟩
            · have ho : (FloatKind.f32.format.order sm 0 == some .gt) = true := by rw [hs1]; exact hg
              have HO : Hid (tailR xs (cnt : Int) = numV (tailC sl (cnt : Int)) ∧ tailB xs (cnt : Int) = finB (tailC sl (cnt : Int))) := Lib.hid (by
                have h := HIN.out.trans hg
                unfold tailR tailB
                rw [h, ← HSE.out]
                exact ⟨rfl, rfl⟩)
              have HTC2 : Hid (tailC sl (cnt : Int) = fop .quo .f32 (floatOfInt .f32 (cnt : Int)) sm) := Lib.hid (by rw [HTC.out, hs1])
              clear hs1 hg
              go_wp2_with (refine wpList_fopW rfl .quo 25 (.tmp 51) (.tmp 52) 25 rfl arith_quo .f32 _ _ rfl rfl ?_; intro r1 w5 h1 q1)
              have HI := Lib.hid (fun W => ifNumber_any r1 (tailC sl (cnt : Int)) W (by rw [HTC2.out]; exact h1))
              have B5 := Lib.hid (below_drw BR.out q1)
              clear h1 q1
              refine (HI.out _).mono ?_
              rintro e w' ⟨rfl, m9, rfl⟩
              rw [← HO.out.1, ← HO.out.2]
              go_wp2
              go_ret2
              exact ⟨rfl, below_drewN B5.out _⟩
      · rw [hp] at c3
        have HO := Lib.hid (tail_no' (xs := xs) (z := z) (by unfold tailIn; rw [hp]; simp))
        have HC3 := Lib.hid c3
        clear c1 c2 c3 hl hr hn hi hp eg
        go_enter Try.func14, Try.ntmps14
        go_wp2_with fail
        refine HC1.out.mono ?_
        rintro e w1 ⟨rfl, hb⟩
        have B1 := Lib.hid hb
        have HC4 := Lib.hid (HC3.out w1 hb)
        clear hb
        go_wp2_with fail
        refine (HC2.out _).mono ?_
        rintro e w' ⟨rfl, rfl⟩
        go_wp2_with fail
        refine HC4.out.mono ?_
        rintro e w2 ⟨rfl, hb⟩
        have B2 := Lib.hid (bthen B1.out hb)
        clear hb
        go_wp2
        go_ret2
        rw [HO.out.1, HO.out.2]
        exact ⟨rfl, B2.out⟩
end Go.Proofs.Ytbojlgbkkdnegaa
