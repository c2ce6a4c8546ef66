/- 'slices.Repeat' of one bool, and the library's product below it. -/
import Derived.Test.YtbefcfdmaafghaaMark
import Derived.Shelf.Bits.Mul64
import Derived.Laws.CopyOwn
import Derived.Deep.RegionLaw
namespace Go.Proofs.Ytbefcfdmaafghaa
open Go.RowKit
set_option maxHeartbeats 1000000 in
theorem mul64_any (x y : Nat) (hx : x < 18446744073709551616) (hy : y < 18446744073709551616) (w : World) :
    Calls Try.prog 141 #[.int .u64 x, .int .u64 y] w fun e w' => e = .returned (.tuple #[.int .u64 ((x * y / 18446744073709551616 : Nat) : Int), .int .u64 ((x * y % 18446744073709551616 : Nat) : Int)]) ∧ w = w' := by
  obtain ⟨bd, bt, bw, hhi⟩ := Lib.mul64_hi x y hx hy
  have ba := Lib.half_mul_le (a := x / 4294967296) (b := y / 4294967296) (by omega) (by omega)
  have bb := Lib.half_mul_le (a := x / 4294967296) (b := y % 4294967296) (by omega) (by omega)
  have bc := Lib.half_mul_le (a := x % 4294967296) (b := y / 4294967296) (by omega) (by omega)
  have ba' : x / 4294967296 * (y / 4294967296) < 18446744073709551616 := by omega
  have bb' : x / 4294967296 * (y % 4294967296) < 18446744073709551616 := by omega
  have bc' : x % 4294967296 * (y / 4294967296) < 18446744073709551616 := by omega
  have bh1 : x / 4294967296 * (y / 4294967296) + (x / 4294967296 * (y % 4294967296) + x % 4294967296 * (y % 4294967296) / 4294967296) / 4294967296 < 18446744073709551616 := by omega
  have bh : x / 4294967296 * (y / 4294967296) + (x / 4294967296 * (y % 4294967296) + x % 4294967296 * (y % 4294967296) / 4294967296) / 4294967296 + ((x / 4294967296 * (y % 4294967296) + x % 4294967296 * (y % 4294967296) / 4294967296) % 4294967296 + x % 4294967296 * (y / 4294967296)) / 4294967296 < 18446744073709551616 := by omega
  go_enter Try.func141, Try.ntmps141
  go_wp2
  simp only [Mul64.maskN x hx, Mul64.maskN y hy, Mul64.divN, Mul64.mulN, Mul64.addN, Mul64.wrapN _ bd, Mul64.wrapN _ bb', Mul64.wrapN _ bt, Mul64.maskN _ bt, Mul64.wrapN _ bc', Mul64.wrapN _ bw, Mul64.wrapN _ ba', Mul64.wrapN _ bh1, Mul64.wrapN _ bh, Mul64.wrapM (x * y)]
  rw [hhi]
  go_ret2
  exact ⟨rfl, rfl⟩
set_option maxHeartbeats 400000 in
theorem mul_one_any (m : Nat) (hm : m ≤ 1048576) (w : World) :
    Calls Try.prog 124 #[.int .u64 1, .int .u64 m] w fun e w' => e = .returned (.tuple #[.int .u64 0, .int .u64 m]) ∧ w = w' := by
  have C := mul64_any 1 m (by omega) (by omega) w
  have e1 : 1 * m / 18446744073709551616 = 0 := by omega
  have e2 : 1 * m % 18446744073709551616 = m := by omega
  rw [e1, e2] at C
  have HC := Lib.hid C; clear C e1 e2
  go_enter Try.func124, Try.ntmps124
  go_wp2_with fail
  refine HC.out.mono ?_
  rintro e w' ⟨rfl, rfl⟩
  go_wp2
  go_ret2
  exact ⟨rfl, rfl⟩
/-- a row of m places, the first k filled -/
def rowK (b : Bool) (m k : Nat) : List Value := List.replicate k (.bool b) ++ List.replicate (m - k) (.bool false)
theorem rowK_len {b : Bool} {m k : Nat} (h : k ≤ m) : (rowK b m k).length = m := by simp [rowK]; omega
theorem rowK_splice {b : Bool} {m k j : Nat} (h : k + j ≤ m) : splice (rowK b m k) k (List.replicate j (.bool b)) = rowK b m (k + j) := by
  unfold splice rowK
  rw [List.take_append_of_le_length (by simp), List.take_of_length_le (by simp), List.length_replicate, List.drop_append]
  rw [List.drop_eq_nil_of_le (by simp), List.nil_append, List.drop_replicate, List.length_replicate, ← List.append_assoc, List.replicate_append_replicate, show m - k - (k + j - k) = m - (k + j) from by omega]
theorem rowK_full (b : Bool) (m : Nat) : rowK b m m = List.replicate m (.bool b) := by simp [rowK]
theorem rowK_cell {w : World} {g m k : Nat} {b : Bool} {t : TypeId} (h : w.heap[g]? = some (.cells (rowK b m k).toArray t (0, 0))) {j : Nat} (hj : j < k) : w.cell? ⟨g, j, none⟩ = some (.bool b) := by
  have : (rowK b m k)[j]? = some (.bool b) := by
    unfold rowK
    rw [List.getElem?_append_left (by simpa using hj)]
    simp [hj]
  simp [World.cell?, h, this]
theorem one_rep (b : Bool) (j : Nat) : ∀ v ∈ List.replicate j (Value.bool b), v.oneCell' = true := by
  intro v hv
  rw [List.eq_of_mem_replicate hv]
  rfl
theorem rep_at {b : Bool} {j i : Nat} {v : Value} (h : (List.replicate j (Value.bool b))[i]? = some v) : i < j ∧ v = .bool b := by
  rw [List.getElem?_replicate] at h
  split at h
  · rename_i hi
    exact ⟨hi, (Option.some.inj h).symm⟩
  · cases h
theorem own_heap {w : World} {B g n c : Nat} {e : TypeId} {xs : List Value} (h : w.ownsRow B e 1 (.slice (some ⟨g, 0, none⟩) n n) n xs) (hc : c = n) : w.heap[g]? = some (.cells xs.toArray e (0, 0)) := by
  subst hc
  rcases h.2 with ⟨hv, _⟩ | ⟨g', cap, cur, hv, _, hg, hn, _, hs, ht⟩
  · cases hv
  · injection hv with h1 h2 h3
    have h1 := Option.some.inj h1
    injection h1 with h1
    subst h1 h3
    rw [hg, ← ht, List.take_of_length_le (by simp [hs])]
theorem Try.size4 : (Try.prog.info? 4).map (·.size) = some 1 := by kernel_rfl

theorem add_flat (g o j : Nat) : (⟨g, o, none⟩ : Addr).add j = ⟨g, o + j, none⟩ := by
  unfold Addr.add
  split
  · rename_i h; simp
  · rfl
theorem undrew_to {w wr : World} {B : Nat} (h : Below B w wr) : Below B w wr.drew := ⟨h.os, h.tape, h.output, h.size, h.block⟩
set_option maxHeartbeats 2000000 in
set_option maxRecDepth 100000 in
theorem repeat_any (g : Nat) (b : Bool) (m : Nat) (w : World) (hg : g < w.heap.size) (hm : m ≤ 1024) (hc : w.cell? ⟨g, 0, none⟩ = some (.bool b)) :
    Calls Try.prog 94 #[.slice (some ⟨g, 0, none⟩) 1 1, .int .i64 m] w fun e w' => e = .returned (.slice (some ⟨w.heap.size, 0, none⟩) m m) ∧
      w'.heap[w.heap.size]? = some (.cells (List.replicate m (Value.bool b)).toArray 4 (0, 0)) ∧ Below w.heap.size w w' := by
  obtain ⟨i0, hi, hz0, hz1, hz2⟩ := info_parts Try.info4
  have hwr : IntKind.u64.wrap (m : Int) = (m : Int) := by rw [IntKind.wrap_u64]; omega
  obtain ⟨G, hG⟩ : ∃ G, G = w.heap.size := ⟨_, rfl⟩
  have HM := Lib.hid (mul_one_any m (by omega) w)
  go_enter Try.func94, Try.ntmps94
  go_wp2_with fail
  refine HM.out.mono ?_
  rintro e w1 ⟨rfl, rfl⟩
  go_wp2_with (at_make; refine wpList_make_full _ rfl _ _ 22 rfl w.heap.size 4 i0 (.bool false) 1 Try.underlying22 hi hz0 hz1 _ _ _ _ m rfl rfl rfl rfl ?_ ?_ ?_ ?_)
  · rw [hz2]; omega
  · unfold maxLen; omega
  · exact Nat.le_refl _
  · intro w1 hown hgrow
    have HB := Lib.hid ((Below.refl w.heap.size w).grown hgrow (Nat.le_refl _) (fun k hk => by cases hk))
    have hx : w1.heap[w.heap.size]? = some (.cells (rowK b m 0).toArray 4 (0, 0)) := by
      have := own_heap hown rfl
      simpa [toList_madeCells_one, Value.cells, rowK] using this
    have HX := Lib.hid hx
    have hc1 : w1.cell? ⟨g, 0, none⟩ = some (.bool b) := by rw [HB.out.cell (p := ⟨g, 0, none⟩) hg]; exact hc
    have HC := Lib.hid hc1
    clear hgrow hown hx hc1
    go_wp2_with (with_reducible show wpList _ _ _ _ _ _; go_loud (refine wpList_copy_splice (o := ⟨some 33, _, _, _, _, _⟩) rfl (.tmp 31) (.tmp 32) 22 22 rfl 4 Try.underlying22 Try.size4 (some ⟨w.heap.size, 0, none⟩) (some ⟨g, 0, none⟩) m m 1 1 rfl rfl w.heap.size 0 (rowK b m 0) 4 HX.out (List.replicate (min 1 m) (.bool b)) List.length_replicate (fun _ => ⟨rfl, _, rfl, fun j v hv => by obtain ⟨h1, rfl⟩ := rep_at hv; obtain rfl : j = 0 := (by omega); simpa [Addr.add] using HC.out⟩) (by rw [rowK_len (Nat.zero_le _), List.length_replicate]; omega) (one_rep _ _) w.heap.size w HB.out (Nat.le_refl _) ?_); intro w2 hg2 hb2)
    rw [rowK_splice (by omega), Nat.zero_add] at hg2
    have HB2 := Lib.hid hb2
    clear hb2 HB HX HC
    have HG2 := Lib.hid hg2.out
    clear hg2
    go_wp2
    go_loopw [8] (fun i wr => ∃ k : Nat, k ≤ m ∧ (k = 0 → m = 0) ∧ i = .int .i64 k ∧ Hid (wr.heap[w.heap.size]? = some (.cells (rowK b m k).toArray 4 (0, 0))) ∧ Below w.heap.size w wr) (fun i _ => m - (intOf i).toNat)
    case atStart => exact ⟨min 1 m, by omega, by omega, by simp, HG2.out, HB2.out⟩
    case round =>
      obtain ⟨k, hk, hk0, rfl, HG, hb⟩ := hrel
      by_cases hlt : k < m
      · have HB := Lib.hid (undrew_to hb); clear hb
        have HGd : Hid (wr.drew.heap[w.heap.size]? = some (.cells (rowK b m k).toArray 4 (0, 0))) := Lib.hid HG.out
        obtain ⟨j, hj⟩ : ∃ j, j = min k (m - k) := ⟨_, rfl⟩
        have hj1 : j ≤ m - k ∧ 0 < j ∧ j ≤ k := by omega
        have hw2 : IntKind.i64.wrap ((k : Int) + (j : Int)) = ((k + j : Nat) : Int) := by rw [IntKind.wrap_i64]; omega
        have HJ := Lib.hid hj; clear hj
        go_wp2
        go_region_law (refine step_copy_splice (o := ⟨some 45, _, _, _, _, _⟩) rfl (.tmp 41) (.tmp 44) 22 22 rfl 4 Try.underlying22 Try.size4 (some ⟨w.heap.size, k, none⟩) (some ⟨w.heap.size, 0, none⟩) (m - k) (m - k) k m (by simp [Act.eval, Act.put]; omega) (by simp [Act.eval, Act.put]) w.heap.size k (rowK b m k) 4 HGd.out (List.replicate j (.bool b)) (List.length_replicate.trans HJ.out) (fun _ => ⟨rfl, _, rfl, fun i v hv => by obtain ⟨h1, rfl⟩ := rep_at hv; rw [add_flat, Nat.zero_add]; exact rowK_cell HGd.out (show i < k by omega)⟩) (by rw [rowK_len hk, List.length_replicate]; omega) (one_rep _ _) w.heap.size w HB.out (Nat.le_refl _) ?_; intro w4 hg4 hb4)
        rw [rowK_splice (by omega)] at hg4
        have HG4 := Lib.hid hg4.out
        have HB4 := Lib.hid hb4
        clear hg4 hb4
        go_wp2
        go_roundw
        case rel => exact ⟨k + j, by omega, by omega, by first | rfl | rw [hw2], HG4.out, HB4.out⟩
        case measure => simp [intOf]; omega
      · have hkm : k = m := by omega
        subst hkm
        rw [rowK_full] at HG
        go_wp2
        go_ret
        exact ⟨rfl, HG.out, hb⟩
end Go.Proofs.Ytbefcfdmaafghaa
