/- 'slices.Repeat' of one int. -/
import Derived.Test.YtbefcfdmaafghaaRepeat
namespace Go.Proofs.Ytbefcfdmaafghaa
open Go.RowKit
/-- a row of m places, the first k filled -/
def rowKI (b : Int) (m k : Nat) : List Value := List.replicate k (.int .i64 b) ++ List.replicate (m - k) (.int .i64 0)
theorem rowKI_len {b : Int} {m k : Nat} (h : k ≤ m) : (rowKI b m k).length = m := by simp [rowKI]; omega
theorem rowKI_splice {b : Int} {m k j : Nat} (h : k + j ≤ m) : splice (rowKI b m k) k (List.replicate j (.int .i64 b)) = rowKI b m (k + j) := by
  unfold splice rowKI
  rw [List.take_append_of_le_length (by simp), List.take_of_length_le (by simp), List.length_replicate, List.drop_append]
  rw [List.drop_eq_nil_of_le (by simp), List.nil_append, List.drop_replicate, List.length_replicate, ← List.append_assoc, List.replicate_append_replicate, show m - k - (k + j - k) = m - (k + j) from by omega]
theorem rowKI_full (b : Int) (m : Nat) : rowKI b m m = List.replicate m (.int .i64 b) := by simp [rowKI]
theorem rowKI_cell {w : World} {g m k : Nat} {b : Int} {t : TypeId} (h : w.heap[g]? = some (.cells (rowKI b m k).toArray t (0, 0))) {j : Nat} (hj : j < k) : w.cell? ⟨g, j, none⟩ = some (.int .i64 b) := by
  have : (rowKI b m k)[j]? = some (.int .i64 b) := by
    unfold rowKI
    rw [List.getElem?_append_left (by simpa using hj)]
    simp [hj]
  simp [World.cell?, h, this]
theorem one_repI (b : Int) (j : Nat) : ∀ v ∈ List.replicate j (Value.int .i64 b), v.oneCell' = true := by
  intro v hv
  rw [List.eq_of_mem_replicate hv]
  rfl
theorem repI_at {b : Int} {j i : Nat} {v : Value} (h : (List.replicate j (Value.int .i64 b))[i]? = some v) : i < j ∧ v = .int .i64 b := by
  rw [List.getElem?_replicate] at h
  split at h
  · rename_i hi
    exact ⟨hi, (Option.some.inj h).symm⟩
  · cases h
theorem Try.size2 : (Try.prog.info? 2).map (·.size) = some 1 := by kernel_rfl

set_option maxHeartbeats 2000000 in
set_option maxRecDepth 100000 in
theorem repeatI_any (g : Nat) (b : Int) (m : Nat) (w : World) (hg : g < w.heap.size) (hm : m ≤ 1024) (hc : w.cell? ⟨g, 0, none⟩ = some (.int .i64 b)) :
    Calls Try.prog 134 #[.slice (some ⟨g, 0, none⟩) 1 1, .int .i64 m] w fun e w' => e = .returned (.slice (some ⟨w.heap.size, 0, none⟩) m m) ∧
      w'.heap[w.heap.size]? = some (.cells (List.replicate m (Value.int .i64 b)).toArray 2 (0, 0)) ∧ Below w.heap.size w w' := by
  obtain ⟨i0, hi, hz0, hz1, hz2⟩ := info_parts Try.info2
  have hwr : IntKind.u64.wrap (m : Int) = (m : Int) := by rw [IntKind.wrap_u64]; omega
  obtain ⟨G, hG⟩ : ∃ G, G = w.heap.size := ⟨_, rfl⟩
  have HM := Lib.hid (mul_one_any m (by omega) w)
  go_enter Try.func134, Try.ntmps134
  go_wp2_with fail
  refine HM.out.mono ?_
  rintro e w1 ⟨rfl, rfl⟩
  go_wp2_with (at_make; refine wpList_make_full _ rfl _ _ 66 rfl w.heap.size 2 i0 (.int .i64 0) 1 Try.underlying66 hi hz0 hz1 _ _ _ _ m rfl rfl rfl rfl ?_ ?_ ?_ ?_)
  · rw [hz2]; omega
  · unfold maxLen; omega
  · exact Nat.le_refl _
  · intro w1 hown hgrow
    have HB := Lib.hid ((Below.refl w.heap.size w).grown hgrow (Nat.le_refl _) (fun k hk => by cases hk))
    have hx : w1.heap[w.heap.size]? = some (.cells (rowKI b m 0).toArray 2 (0, 0)) := by
      have := own_heap hown rfl
      simpa [toList_madeCells_one, Value.cells, rowKI] using this
    have HX := Lib.hid hx
    have hc1 : w1.cell? ⟨g, 0, none⟩ = some (.int .i64 b) := by rw [HB.out.cell (p := ⟨g, 0, none⟩) hg]; exact hc
    have HC := Lib.hid hc1
    clear hgrow hown hx hc1
    go_wp2_with (with_reducible show wpList _ _ _ _ _ _; go_loud (refine wpList_copy_splice (o := ⟨some 33, _, _, _, _, _⟩) rfl (.tmp 31) (.tmp 32) 66 66 rfl 2 Try.underlying66 Try.size2 (some ⟨w.heap.size, 0, none⟩) (some ⟨g, 0, none⟩) m m 1 1 rfl rfl w.heap.size 0 (rowKI b m 0) 2 HX.out (List.replicate (min 1 m) (.int .i64 b)) List.length_replicate (fun _ => ⟨rfl, _, rfl, fun j v hv => by obtain ⟨h1, rfl⟩ := repI_at hv; obtain rfl : j = 0 := (by omega); simpa [Addr.add] using HC.out⟩) (by rw [rowKI_len (Nat.zero_le _), List.length_replicate]; omega) (one_repI _ _) w.heap.size w HB.out (Nat.le_refl _) ?_); intro w2 hg2 hb2)
    rw [rowKI_splice (by omega), Nat.zero_add] at hg2
    have HB2 := Lib.hid hb2
    clear hb2 HB HX HC
    have HG2 := Lib.hid hg2.out
    clear hg2
    go_wp2
    go_loopw [8] (fun i wr => ∃ k : Nat, k ≤ m ∧ (k = 0 → m = 0) ∧ i = .int .i64 k ∧ Hid (wr.heap[w.heap.size]? = some (.cells (rowKI b m k).toArray 2 (0, 0))) ∧ Below w.heap.size w wr) (fun i _ => m - (intOf i).toNat)
    case atStart => exact ⟨min 1 m, by omega, by omega, by simp, HG2.out, HB2.out⟩
    case round =>
      obtain ⟨k, hk, hk0, rfl, HG, hb⟩ := hrel
      by_cases hlt : k < m
      · have HB := Lib.hid (undrew_to hb); clear hb
        have HGd : Hid (wr.drew.heap[w.heap.size]? = some (.cells (rowKI b m k).toArray 2 (0, 0))) := Lib.hid HG.out
        obtain ⟨j, hj⟩ : ∃ j, j = min k (m - k) := ⟨_, rfl⟩
        have hj1 : j ≤ m - k ∧ 0 < j ∧ j ≤ k := by omega
        have hw2 : IntKind.i64.wrap ((k : Int) + (j : Int)) = ((k + j : Nat) : Int) := by rw [IntKind.wrap_i64]; omega
        have HJ := Lib.hid hj; clear hj
        go_wp2
        go_region_law (refine step_copy_splice (o := ⟨some 45, _, _, _, _, _⟩) rfl (.tmp 41) (.tmp 44) 66 66 rfl 2 Try.underlying66 Try.size2 (some ⟨w.heap.size, k, none⟩) (some ⟨w.heap.size, 0, none⟩) (m - k) (m - k) k m (by simp [Act.eval, Act.put]; omega) (by simp [Act.eval, Act.put]) w.heap.size k (rowKI b m k) 2 HGd.out (List.replicate j (.int .i64 b)) (List.length_replicate.trans HJ.out) (fun _ => ⟨rfl, _, rfl, fun i v hv => by obtain ⟨h1, rfl⟩ := repI_at hv; rw [add_flat, Nat.zero_add]; exact rowKI_cell HGd.out (show i < k by omega)⟩) (by rw [rowKI_len hk, List.length_replicate]; omega) (one_repI _ _) w.heap.size w HB.out (Nat.le_refl _) ?_; intro w4 hg4 hb4)
        rw [rowKI_splice (by omega)] at hg4
        have HG4 := Lib.hid hg4.out
        have HB4 := Lib.hid hb4
        clear hg4 hb4
        go_wp2
        go_roundw
        case rel => exact ⟨k + j, by omega, by omega, by first | rfl | rw [hw2], HG4.out, HB4.out⟩
        case measure => simp [intOf]; omega
      · have hkm : k = m := by omega
        subst hkm
        rw [rowKI_full] at HG
        go_wp2
        go_ret
        exact ⟨rfl, HG.out, hb⟩
end Go.Proofs.Ytbefcfdmaafghaa
