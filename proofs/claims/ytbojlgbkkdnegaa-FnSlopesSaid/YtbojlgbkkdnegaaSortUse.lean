/- Between rows that a call owns and the sort's worlds; the sort of nothing. -/
import Derived.Test.YtbojlgbkkdnegaaSortEI
import Derived.Test.YtbojlgbkkdnegaaSortEF
import Derived.Test.YtbojlgbkkdnegaaSo
import Derived.Test.YtbojlgbkkdnegaaLo
namespace Go.Proofs.Ytbojlgbkkdnegaa
open Go.Shelf Go.RowKit Go.Lib Go.Sort
theorem holds_row {enc : Nat → Value} {w : World} {g : Nat} {cur : Array Value} {e : TypeId} {ss : List Nat} (hb : w.heap[g]? = some (.cells cur e (0, 0))) (ht : cur.toList.take ss.length = ss.map enc) : Holds enc w g 0 ss.toArray := by
  intro j hj
  have hj' : j < ss.length := by simpa using hj
  refine ⟨?_, by simp [World.frozen?, hb]⟩
  have h1 : (cur.toList.take ss.length)[j]? = (ss.map enc)[j]? := by rw [ht]
  rw [List.getElem?_take_of_lt hj'] at h1
  simp only [World.cell?, hb, Nat.zero_add]
  simp only [Option.isSome_none, Bool.false_eq_true, if_false]
  rw [← Array.getElem?_toList, h1]
  simp [hj']
theorem heap_sw {enc : Nat → Value} {w w' : World} {g : Nat} {cur : Array Value} {e : TypeId} {fr : Nat × Nat} {d : Array Nat} (h : SW enc w g 0 d w') (hb : w.heap[g]? = some (.cells cur e fr)) : w'.heap[g]? = some (.cells (putCells enc 0 d cur) e fr) := by
  obtain ⟨n, os, rfl⟩ := h
  have hg : g < w.heap.size := (Array.getElem?_eq_some_iff.1 hb).1
  unfold sortWorld
  rw [heap_grow_old _ _ (by simpa using hg)]
  simp [putRow, mapBlock, Sort.ahead, Array.getElem?_modify, hb, onCells]
theorem grownBy_sw {enc : Nat → Value} {w w' : World} {g : Nat} {d : Array Nat} (h : SW enc w g 0 d w') : w.grownBy w' (some g) := by
  obtain ⟨n, os, rfl⟩ := h
  unfold sortWorld
  refine ⟨rfl, rfl, rfl, by simp, fun k hk hne => ?_⟩
  rw [heap_grow_old _ _ (by simpa using hk)]
  have : g ≠ k := fun e => hne (by rw [e])
  simp [putRow, mapBlock, Sort.ahead, Array.getElem?_modify, this]
theorem take_put {enc : Nat → Value} (cur : Array Value) (ts : List Nat) (h : ts.length ≤ cur.size) : (putCells enc 0 ts.toArray cur).toList.take ts.length = ts.map enc := by
  apply List.ext_getElem?
  intro j
  by_cases hj : j < ts.length
  · rw [List.getElem?_take_of_lt hj, Array.getElem?_toList]
    simp [putCells, hj, show j < cur.size by omega]
  · rw [List.getElem?_take_eq_none (by omega), List.getElem?_eq_none (by simp; omega)]
/-- a row of the call's own, behind a sort -/
theorem own_sw {enc : Nat → Value} {w w' : World} {B g cap n : Nat} {e : TypeId} {xs : List Value} {M : List Nat} (ho : w.ownsRow B e 1 (.slice (some ⟨g, 0, none⟩) n cap) n xs) (hn : M.length = n) (h : SL enc w g 0 M w') :
    w'.ownsRow B e 1 (.slice (some ⟨g, 0, none⟩) n cap) n (M.map enc) := by
  rcases ho.2 with ⟨hv, _⟩ | ⟨g', cap', cur, hv, hbase, hb, h1, h2, h3, h4⟩
  · cases hv
  · obtain ⟨rfl, rfl⟩ : g' = g ∧ cap' = cap := by injection hv with e1 _ e3; injection e1 with e1; injection e1 with e1; exact ⟨e1.symm, e3.symm⟩
    refine ⟨by simp [hn], .inr ⟨g', cap', _, rfl, hbase, heap_sw h hb, h1, h2, by simp [putCells, h3], ?_⟩⟩
    rw [Nat.mul_one, ← hn]
    exact take_put cur M (by omega)
/-- what a sort is told of a row -/
theorem row_sw {enc : Nat → Value} {w : World} {B g cap n : Nat} {e : TypeId} {ts : List Nat} (ho : w.ownsRow B e 1 (.slice (some ⟨g, 0, none⟩) n cap) n (ts.map enc)) (he : OneCell enc) : Row1 enc w g 0 ts.toArray ∧ SL enc w g 0 ts w ∧ B ≤ g := by
  rcases ho.2 with ⟨hv, _⟩ | ⟨g', cap', cur, hv, hbase, hb, h1, h2, h3, h4⟩
  · cases hv
  · obtain ⟨rfl, rfl⟩ : g' = g ∧ cap' = cap := by injection hv with e1 _ e3; injection e1 with e1; injection e1 with e1; exact ⟨e1.symm, e3.symm⟩
    have hlen := ho.1
    rw [List.length_map, Nat.mul_one] at hlen
    have hh : Holds enc w g' 0 ts.toArray := holds_row hb (by rw [hlen]; simpa using h4)
    exact ⟨⟨he, hh, (Array.getElem?_eq_some_iff.1 hb).1⟩, SW.start hh, hbase⟩
/-- a list of ints of the call's own, and whether it is told -/
def GivesI (B : Nat) (ls : List Int) (ok : Bool) (e : Ending) (w' : World) : Prop := ∃ A c, e = .returned (.tuple #[.slice A ls.length c, .bool ok]) ∧ w'.ownsRow B 2 1 (.slice A ls.length c) ls.length (ls.map (Value.int .i64))
set_option maxHeartbeats 1000000 in
set_option maxRecDepth 100000 in
theorem insNone_I (A : Option Addr) (cap : Nat) (f : Value) (w : World) : Calls Try.prog 63 #[.slice A 0 cap, .int .i64 0, .int .i64 0, f] w fun e w' => e = .returned (.tuple #[]) ∧ w' = w := by
  go_enter Try.func63, Try.ntmps63
  go_wp2
  refine wp_loop_rounds 1 ?_
  rw [rounds_succ]
  go_wp2
  go_end0
  exact ⟨rfl, rfl⟩
set_option maxHeartbeats 1000000 in
set_option maxRecDepth 100000 in
theorem stableNone_I (A : Option Addr) (cap : Nat) (f : Value) (w : World) : Calls Try.prog 54 #[.slice A 0 cap, .int .i64 0, f] w fun e w' => e = .returned (.tuple #[]) ∧ w' = w := by
  go_enter Try.func54, Try.ntmps54
  go_wp2
  refine wp_loop_rounds 1 ?_
  rw [rounds_succ]
  go_wp2_with fail
  refine (insNone_I A cap f _).mono ?_
  rintro e w' ⟨rfl, rfl⟩
  go_wp2
  refine wp_loop_rounds 1 ?_
  rw [rounds_succ]
  go_wp2
  go_end0
  exact ⟨rfl, rfl⟩
set_option maxHeartbeats 1000000 in
set_option maxRecDepth 100000 in
theorem sortNone_I (A : Option Addr) (cap : Nat) (f : Value) (w : World) : Calls Try.prog 32 #[.slice A 0 cap, f] w fun e w' => e = .returned (.tuple #[]) ∧ w' = w := by
  go_enter Try.func32, Try.ntmps32
  go_wp2_with fail
  refine (stableNone_I A cap f _).mono ?_
  rintro e w' ⟨rfl, rfl⟩
  go_wp2
  go_end0
  exact ⟨rfl, rfl⟩
set_option maxHeartbeats 1000000 in
set_option maxRecDepth 100000 in
theorem insNone_F (A : Option Addr) (cap : Nat) (f : Value) (w : World) : Calls Try.prog 66 #[.slice A 0 cap, .int .i64 0, .int .i64 0, f] w fun e w' => e = .returned (.tuple #[]) ∧ w' = w := by
  go_enter Try.func66, Try.ntmps66
  go_wp2
  refine wp_loop_rounds 1 ?_
  rw [rounds_succ]
  go_wp2
  go_end0
  exact ⟨rfl, rfl⟩
set_option maxHeartbeats 1000000 in
set_option maxRecDepth 100000 in
theorem stableNone_F (A : Option Addr) (cap : Nat) (f : Value) (w : World) : Calls Try.prog 58 #[.slice A 0 cap, .int .i64 0, f] w fun e w' => e = .returned (.tuple #[]) ∧ w' = w := by
  go_enter Try.func58, Try.ntmps58
  go_wp2
  refine wp_loop_rounds 1 ?_
  rw [rounds_succ]
  go_wp2_with fail
  refine (insNone_F A cap f _).mono ?_
  rintro e w' ⟨rfl, rfl⟩
  go_wp2
  refine wp_loop_rounds 1 ?_
  rw [rounds_succ]
  go_wp2
  go_end0
  exact ⟨rfl, rfl⟩
set_option maxHeartbeats 1000000 in
set_option maxRecDepth 100000 in
theorem sortNone_F (A : Option Addr) (cap : Nat) (f : Value) (w : World) : Calls Try.prog 43 #[.slice A 0 cap, f] w fun e w' => e = .returned (.tuple #[]) ∧ w' = w := by
  go_enter Try.func43, Try.ntmps43
  go_wp2_with fail
  refine (stableNone_F A cap f _).mono ?_
  rintro e w' ⟨rfl, rfl⟩
  go_wp2
  go_end0
  exact ⟨rfl, rfl⟩
end Go.Proofs.Ytbojlgbkkdnegaa
