/- Copies of lists of float32s; gaps between the numbers of a list, told over lists. -/
import Derived.Test.YtcpimcjmckljfaaSortUse
import Derived.Test.YtcpimcjmckljfaaStill
import Derived.Deep.AppendLies
import Derived.BigQuiet
import Derived.StillTailTactics
namespace Go.Proofs.Ytcpimcjmckljfaa
open Ieee Go.Shelf Go.RowKit Go.Lib Go.Sort
theorem add_zero_off (g k : Nat) : (⟨g, 0, none⟩ : Addr).add k = ⟨g, k, none⟩ := by unfold Addr.add; split <;> simp_all
theorem one_floats (l : List Nat) : ∀ u ∈ l.map (Value.float .f32), u.oneCell' = true := by
  intro u hu
  rw [List.mem_map] at hu
  obtain ⟨x, _, rfl⟩ := hu
  rfl
theorem Rd.some {w : World} {B : Nat} {A : Option Addr} {xs : List Value} (h : Rd w B A xs) (h0 : 0 < xs.length) : ∃ ad, A = .some ad ∧ ad.block < B ∧ ∀ j u, xs[j]? = .some u → w.cell? (ad.add j) = .some u := by
  rcases h with rfl | h
  · simp at h0
  · exact h
set_option maxHeartbeats 1000000 in
set_option maxRecDepth 100000 in
theorem cloneF_any (ad : Addr) (n c : Nat) (bs : List Nat) (w : World) (hn : bs.length = n) (hc : n ≤ 1048576) (hr : Rd w w.heap.size (some ad) (bs.map (Value.float .f32))) :
    Calls Try.prog 80 #[.slice (some ad) n c] w fun e w' => (∃ g cp, e = .returned (.slice (some ⟨g, 0, none⟩) n cp) ∧ w'.ownsRow w.heap.size 23 1 (.slice (some ⟨g, 0, none⟩) n cp) n (bs.map (Value.float .f32))) ∧ Below w.heap.size w w' := by
  obtain ⟨i0, hi, hz0, hz1, hz2⟩ := info_parts Try.info23
  have HN : Hid ((w.alloc (.cells #[] 23)).ownsRow w.heap.size 23 1 (.slice (some ⟨w.heap.size, 0, none⟩) 0 0) 0 []) := Lib.hid (World.ownsRow_made w #[] 0 (Nat.le_refl _) (Nat.zero_le _) rfl)
  have he := Lib.run_eql_slice_nil (P := Try.prog) w 31 23 (some ad) n c 0 0 Try.underlying31
  by_cases h0 : 0 < n
  · obtain ⟨ad', had', had, hcl⟩ := hr.some (by rw [List.length_map]; omega)
    obtain rfl : ad' = ad := (Option.some.inj had').symm
    have HC : Hid (∀ j u, (bs.map (Value.float .f32))[j]? = some u → (w.alloc (.cells #[] 23)).cell? (ad'.add j) = some u) := Lib.hid fun j u hu => by
      rw [World.cell?_alloc_lt _ _ _ (by rw [add_block]; exact had)]; exact hcl j u hu
    have hn1 : (bs.map (Value.float .f32)).length = n * 1 := by simp [hn]
    have HL := Lib.hid hn1
    clear hr hcl hn hn1 had'
    go_enter Try.func80, Try.ntmps80
    go_wp2_with (at_builtin; go_must (refine wpList_append_lies _ rfl (.tmp 5) (.tmp 6) 31 rfl w.heap.size 23 i0 (.float .f32 0) 1 4 Try.underlying31 hi hz0 hz1 hz2 rfl (by decide) _ _ _ rfl HN.out ad' n c (bs.map (Value.float .f32)) rfl HL.out HC.out (one_floats _) h0 ?_ ?_ ?_ _ rfl ?_))
    · unfold maxLen; omega
    · omega
    · simp
    intro g cp w1 ho hg _ _
    have HO : Hid (w1.ownsRow w.heap.size 23 1 (.slice (some ⟨g, 0, none⟩) n cp) n (bs.map (Value.float .f32))) := Lib.hid (by simpa using ho)
    have HB := Lib.hid ((below_new w (.cells #[] 23)).grown hg (by simp) (fun k hk => (HN.out.lt k hk).1))
    clear ho hg
    go_wp2
    go_ret
    exact ⟨⟨g, cp, by simp, HO.out⟩, HB.out⟩
  · obtain rfl : n = 0 := by omega
    obtain rfl : bs = [] := List.eq_nil_of_length_eq_zero hn
    clear hr hn h0
    go_enter Try.func80, Try.ntmps80
    go_wp2_with (at_builtin; go_must (refine wpList_append_own_at _ rfl (.tmp 5) (.tmp 6) 31 rfl w.heap.size 23 i0 (.float .f32 0) 1 4 Try.underlying31 hi hz0 hz1 hz2 rfl (by decide) _ _ _ rfl HN.out ad 0 c [] rfl rfl (fun j u hu => by simp at hu) (fun u hu => by cases hu) ?_ ?_ ?_ ?_))
    · unfold maxLen; omega
    · omega
    · simp
    intro v' w7 hown' hgrow _ hat'
    have HV7 := Lib.hid hown'
    have HB := Lib.hid ((below_new w (.cells #[] 23)).grown hgrow (by simp) (fun k hk => (HN.out.lt k hk).1))
    have HAT := Lib.hid hat'
    clear hown' hgrow hat'
    go_wp2
    go_ret
    have hsh : ∃ g cp, v' = .slice (some ⟨g, 0, none⟩) 0 cp := by
      rcases HV7.out.2 with ⟨hv, h0⟩ | ⟨g, cap, cur, hv, _⟩
      · rcases HAT.out with h | h <;> · rw [hv] at h; cases h
      · exact ⟨g, cap, hv⟩
    obtain ⟨g, cp, rfl⟩ := hsh
    exact ⟨⟨g, cp, rfl, HV7.out⟩, HB.out⟩
/-- the numbers upwards -/
noncomputable def srtA (xs : List Nat) : List Nat := (sortedOf (ltA xs) (List.range xs.length)).map fun i => xs.getD i 0
def gapsN (sl : List Nat) : List Nat := (List.range (sl.length - 1)).map fun i => fop .sub .f32 (sl.getD (i + 1) 0) (sl.getD i 0)
noncomputable def gapsOk (xs : List Nat) : Bool := listB xs && finL (gapsN (srtA xs))
noncomputable def gapsR (xs : List Nat) : List Nat := if gapsOk xs = true then gapsN (srtA xs) else []
theorem sortedOf_len (lt : Nat → Nat → Prop) (ts : List Nat) : (sortedOf lt ts).length ≤ ts.length := by
  unfold sortedOf
  split
  · rename_i h
    exact Nat.le_of_eq (Classical.choose_spec h).1.length_eq
  · simp
theorem gapsR_len (xs : List Nat) (h : xs.length ≤ 1048576) : (gapsR xs).length ≤ 1048576 := by
  unfold gapsR
  split
  · unfold gapsN srtA
    have := sortedOf_len (ltA xs) (List.range xs.length)
    rw [List.length_range] at this
    rw [List.length_map, List.length_range, List.length_map]
    omega
  · simp
theorem gap_step {sl : List Nat} {k : Nat} (h : k + 1 < sl.length) : (List.range (k + 1)).map (fun i => fop .sub .f32 (sl.getD (i + 1) 0) (sl.getD i 0)) = (List.range k).map (fun i => fop .sub .f32 (sl.getD (i + 1) 0) (sl.getD i 0)) ++ [fop .sub .f32 sl[k + 1] (sl[k]'(by omega))] := by
  rw [List.range_succ, List.map_append]
  simp [List.getD_eq_getElem?_getD, List.getElem?_eq_getElem h, List.getElem?_eq_getElem (show k < sl.length by omega)]
theorem asc_ok (xs : List Nat) (hf : finL xs = true) : (List.range xs.length).Pairwise (OkC (ltA xs) (fun i j => cmpN (xs.getD i 0) (xs.getD j 0))) := by
  refine (List.pairwise_lt_range (n := xs.length)).imp fun {y x} hlt => ?_
  have h := cmpN_lt (fin_get (finL_mem hf) x) (fin_get (finL_mem hf) y)
  unfold OkC
  rw [h]
  unfold ltA keyAt
  constructor
  · intro h1; exact .inl h1
  · intro h1; omega
theorem vals_map (xs : List Nat) : (List.range xs.length).map (fun i => Value.float .f32 (xs.getD i 0)) = xs.map (Value.float .f32) := by
  refine List.ext_getElem (by simp) fun i h1 h2 => ?_
  simp [List.getD_eq_getElem?_getD]
  rw [List.getElem?_eq_getElem (by simpa using h2)]
  rfl
theorem srt_fin {xs : List Nat} (hf : finL xs = true) : ∀ x ∈ srtA xs, finB x = true := by
  intro x hx
  obtain ⟨i, _, rfl⟩ := List.mem_map.1 hx
  exact fin_get (finL_mem hf) i
theorem sw_noop {enc : Nat → Value} {w : World} {blk off m : Nat} {dk : Array Nat} {os : Array Obj} : sortWorld enc w blk off m dk os = sortWorld enc w blk off m dk os := rfl
set_option maxHeartbeats 1000000 in
/-- a list of floats sorted upwards -/
theorem sortUp_any {w : World} {B g cap n : Nat} {xs : List Nat} (hn : xs.length = n) (hm : n ≤ 1048576) (hf : finL xs = true) (ho : w.ownsRow B 23 1 (.slice (some ⟨g, 0, none⟩) n cap) n (xs.map (Value.float .f32))) :
    Calls Try.prog 81 #[.slice (some ⟨g, 0, none⟩) n cap, .func (.func 78) #[] #[]] w fun e w' => e = .returned (.tuple #[]) ∧ w'.ownsRow B 23 1 (.slice (some ⟨g, 0, none⟩) n cap) n ((srtA xs).map (Value.float .f32)) ∧ (srtA xs).length = n ∧ Below B w w' := by
  obtain ⟨enc, henc⟩ : ∃ enc : Nat → Value, enc = fun i => Value.float .f32 (xs.getD i 0) := ⟨_, rfl⟩
  have ho' : w.ownsRow B 23 1 (.slice (some ⟨g, 0, none⟩) n cap) n ((List.range n).map enc) := by rw [henc, ← hn, vals_map, hn]; exact ho
  obtain ⟨hrow, hsl, hgB⟩ := row_sw ho' (by rw [henc]; exact fun i => rfl)
  have hin : SortIn enc (fun i j => cmpN (xs.getD i 0) (xs.getD j 0)) (ltA xs) 78 #[] g 0 n (List.range n).toArray w := by
    refine ⟨enters_of (P := Try.prog) Try.func78 (by kernel_rfl) rfl, ?_, hrow, by simp, ltA_tr xs, by omega⟩
    intro m os dk hdk x y
    subst henc
    change Calls Try.prog 78 #[.float .f32 (xs.getD x 0), .float .f32 (xs.getD y 0)] _ _
    refine (compareNumbers_any _ _ _).mono ?_
    rintro e w' ⟨rfl, rfl⟩
    exact ⟨rfl, 0, #[], by rw [grow_empty]; rfl⟩
  have hok := asc_ok xs hf
  rw [hn] at hok
  refine (sortStable_F hin cap (List.range n) w (by simp) hok hsl).mono ?_
  rintro e w' ⟨rfl, M, h1, h2, h3⟩
  have hMl : M.length = n := by rw [h1.length_eq]; simp
  have hE : sortedOf (ltA xs) (List.range xs.length) = M := by rw [hn]; exact sortedOf_eq (ltA_as xs) h1 h2
  have ho2 := own_sw ho' hMl h3
  refine ⟨rfl, ?_, by unfold srtA; rw [hE, List.length_map, hMl], ?_⟩
  · unfold srtA
    rw [hE, List.map_map]
    rw [henc] at ho2
    exact ho2
  · exact (Below.refl B w).grown (grownBy_sw h3) (by have := hrow.hblk; omega) (fun q hq => by injection hq with hq; rw [← hq]; exact hgB)
end Go.Proofs.Ytcpimcjmckljfaa
