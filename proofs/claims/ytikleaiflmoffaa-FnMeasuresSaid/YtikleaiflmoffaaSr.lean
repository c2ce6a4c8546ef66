/- Src, R8, Noise -/
import Derived.Test.YtikleaiflmoffaaRe
import Derived.Test.YtikleaiflmoffaaBa
import Derived.Laws.Bits64b
import Derived.BigQuiet
import Derived.Test.YtikleaiflmoffaaLo
import Derived.OwnWalk
-- The source of choices: bytes, and then numbers of a seed.
namespace Go.Proofs.Ytikleaiflmoffaa
open Ieee Go.RowKit
/-- block b is just these cells -/
def Blk (w : World) (b : Nat) (t : TypeId) (cs : Array Value) : Prop := w.heap[b]? = some (.cells cs t (0, 0))
section
variable {w w' : World} {b : Nat} {t : TypeId} {cs : Array Value}
theorem Blk.lt (h : Blk w b t cs) : b < w.heap.size := (Array.getElem?_eq_some_iff.1 h).1
theorem Blk.cell (h : Blk w b t cs) (i : Nat) : w.cell? ⟨b, i, none⟩ = cs[i]? := cell_of_row w b i cs t (0, 0) h
theorem Blk.frozen (h : Blk w b t cs) (i : Nat) : w.frozen? ⟨b, i, none⟩ = false := frozen_of_row w b i cs t h
theorem Blk.new (w : World) (t : TypeId) (cs : Array Value) : Blk (w.alloc (.cells cs t)) w.heap.size t cs := heap_alloc_new w _
theorem Blk.below {B : Nat} (h : Blk w b t cs) (hb : Below B w w') (hg : b < B) : Blk w' b t cs := (hb.block b hg).trans h
theorem Blk.next (h : Blk w b t cs) (hb : Below w.heap.size w w') : Blk w' b t cs := h.below hb h.lt
theorem Blk.drewN (h : Blk w b t cs) (n : Nat) : Blk (w.drewN n) b t cs := h
theorem Blk.grown {r : Option Nat} (h : Blk w b t cs) (hg : w.grownBy w' r) (hne : some b ≠ r) : Blk w' b t cs := (hg.block b h.lt hne).trans h
theorem Blk.far (h : Blk w b t cs) {p : Addr} (hp : b ≠ p.block) (u : Value) : Blk (w.setCell p u) b t cs := (Below.heap_setCell w p u b hp).trans h
theorem Blk.set_ (h : Blk w b t cs) (i : Nat) (u : Value) : Blk (w.setCell ⟨b, i, none⟩ u) b t (cs.setIfInBounds i u) := heap_setCell_same w b i cs t u h
end
/-- a source in a block -/
def SrcAt (w : World) (g : Nat) (v : Value) (k s : Int) : Prop := Blk w g 64 #[v, .int .i64 k, .int .u64 s]
theorem grown_set (w : World) (g i : Nat) (v : Value) : w.grownBy (w.setCell ⟨g, i, none⟩ v) (some g) := ⟨rfl, rfl, rfl, by simp, fun k _ hne => Below.heap_setCell w ⟨g, i, none⟩ v k (fun h => hne (by rw [h]))⟩
theorem grown_drew {w w' : World} {r : Option Nat} (h : w.grownBy w' r) (m : Nat) : w.grownBy (w'.drewN m) r := ⟨h.os, h.tape, h.output, h.size, h.block⟩
theorem u64_in (x : Int) : 0 ≤ IntKind.u64.wrap x ∧ IntKind.u64.wrap x < 18446744073709551616 := by
  rw [IntKind.wrap_u64]
  omega
theorem and_byte (x : Int) (h1 : 0 ≤ x) (h2 : x < 18446744073709551616) : 0 ≤ bits .and .u64 (x / 2 ^ 40) 255 ∧ bits .and .u64 (x / 2 ^ 40) 255 < 256 := by
  obtain ⟨n, hn⟩ : ∃ n : Nat, x / 2 ^ 40 = (n : Int) := ⟨(x / 2 ^ 40).toNat, by omega⟩
  rw [hn, show (255 : Int) = ((255 : Nat) : Int) from rfl, bits_and_u64_nat n 255 (by omega) (by decide)]
  have := Nat.and_le_right (n := n) (m := 255)
  omega
theorem src_set {w : World} {g : Nat} {v : Value} {k s : Int} (h : SrcAt w g v k s) (k' s' : Int) (m1 m2 : Nat) :
    (∃ t, SrcAt ((((w.drewN m1).setCell ⟨g, 1, none⟩ (.int .i64 k')).setCell ⟨g, 2, none⟩ (.int .u64 s')).drewN m2) g v k' t) ∧ w.grownBy ((((w.drewN m1).setCell ⟨g, 1, none⟩ (.int .i64 k')).setCell ⟨g, 2, none⟩ (.int .u64 s')).drewN m2) (some g) ∧ ((((w.drewN m1).setCell ⟨g, 1, none⟩ (.int .i64 k')).setCell ⟨g, 2, none⟩ (.int .u64 s')).drewN m2).heap.size = w.heap.size := by
  refine ⟨⟨s', ?_⟩, ?_, ?_⟩
  · have h1 := ((Blk.drewN h m1).set_ 1 (.int .i64 k')).set_ 2 (.int .u64 s')
    have h2 := Blk.drewN h1 m2
    simpa [SrcAt] using h2
  · exact grown_drew (World.grownBy.trans' (World.grownBy.trans' (grown_drew (World.grownBy.refl w _) m1) (grown_set _ g 1 _)) (grown_set _ g 2 _)) m2
  · simp
set_option maxRecDepth 100000 in
set_option maxHeartbeats 1000000 in
theorem next_any (A : Option Addr) (n c g : Nat) (bs : List Int) (k s : Int) (w : World) (hb : ByteL bs) (hn : bs.length = n) (_hm : n ≤ 48) (hk : 0 ≤ k) (hk2 : k ≤ 100000) (hr : Rd w w.heap.size A (bs.map (Value.int .u8))) (hs : SrcAt w g (.slice A n c) k s) :
    Calls Try.prog 36 #[.pointer (some ⟨g, 0, none⟩)] w fun e w' => (∃ z, e = .returned (.int .i64 z) ∧ 0 ≤ z ∧ z < 256) ∧ (∃ s', SrcAt w' g (.slice A n c) (k + 1) s') ∧ w.grownBy w' (some g) ∧ w'.heap.size = w.heap.size := by
  have HS := Lib.hid hs
  have k0 := hs.cell 0; have k1 := hs.cell 1; have k2 := hs.cell 2
  have f1 := hs.frozen 1; have f2 := hs.frozen 2
  simp only [List.getElem?_toArray, List.getElem?_cons_zero, List.getElem?_cons_succ] at k0 k1 k2
  clear hs
  have hw : IntKind.i64.wrap (k + 1) = k + 1 := by rw [IntKind.wrap_i64]; omega
  by_cases hlt : k < (n : Int)
  · obtain ⟨kn, rfl⟩ : ∃ kn : Nat, k = kn := ⟨k.toNat, by omega⟩
    have hge : (kn : Int) + 1 ≤ (n : Int) := by omega
    obtain ⟨ad, rfl, _, hcell⟩ := hr.at_ (k := kn) (by rw [List.length_map]; omega)
    rw [List.getElem_map] at hcell
    obtain ⟨b1, b2⟩ := hb bs[kn] (List.getElem_mem (by omega))
    obtain ⟨b, hbe⟩ : ∃ b, b = bs[kn] := ⟨_, rfl⟩
    rw [← hbe] at hcell b1 b2
    clear hbe hb hr
    go_enter Try.func36, Try.ntmps36
    go_wp2_with fail
    go_quiet (fail)
    go_wp2_with fail
    go_quiet (fail)
    go_wp2_with fail
    go_quiet (fail)
    go_wp2_with fail
    go_ret
    obtain ⟨g1, g2, g3⟩ := src_set HS.out ((kn : Int) + 1) _ _ _
    exact ⟨⟨b, rfl, b1, b2⟩, g1, g2, g3⟩
  · have hge : ¬ k + 1 ≤ (n : Int) := by omega
    clear hb hr
    go_enter Try.func36, Try.ntmps36
    go_wp2_with fail
    go_quiet (fail)
    go_wp2_with fail
    go_quiet (fail)
    go_wp2_with fail
    go_ret
    obtain ⟨g1, g2, g3⟩ := src_set HS.out (k + 1) _ _ _
    obtain ⟨x1, x2⟩ := and_byte _ (u64_in (IntKind.u64.wrap (IntKind.u64.wrap (s * 6364136223846793005)) + 1442695040888963407)).1 (u64_in _).2
    have x3 : wrap64 (bits .and .u64 (IntKind.u64.wrap (IntKind.u64.wrap (IntKind.u64.wrap (s * 6364136223846793005)) + 1442695040888963407) / 2 ^ 40) 255) = bits .and .u64 (IntKind.u64.wrap (IntKind.u64.wrap (IntKind.u64.wrap (s * 6364136223846793005)) + 1442695040888963407) / 2 ^ 40) 255 := by unfold wrap64; omega
    exact ⟨⟨_, congrArg (fun z => Ending.returned (.int .i64 z)) x3, x1, x2⟩, g1, g2, g3⟩
end Go.Proofs.Ytikleaiflmoffaa

-- Lists that a source chooses.
namespace Go.Proofs.Ytikleaiflmoffaa
open Ieee Go.RowKit
set_option maxRecDepth 100000 in
set_option maxHeartbeats 1000000 in
theorem pick_any (A : Option Addr) (n c g : Nat) (bs : List Int) (k s N : Int) (w : World) (hb : ByteL bs) (hn : bs.length = n) (hm : n ≤ 48) (hk : 0 ≤ k) (hk2 : k ≤ 100000) (hN : 2 ≤ N) (hN2 : N ≤ 200) (hr : Rd w w.heap.size A (bs.map (Value.int .u8))) (hs : SrcAt w g (.slice A n c) k s) :
    Calls Try.prog 30 #[.pointer (some ⟨g, 0, none⟩), .int .i64 N] w fun e w' => (∃ z, e = .returned (.int .i64 z) ∧ 0 ≤ z ∧ z < N) ∧ (∃ s', SrcAt w' g (.slice A n c) (k + 1) s') ∧ w.grownBy w' (some g) ∧ w'.heap.size = w.heap.size := by
  have HC := Lib.hid (next_any A n c g bs k s w hb hn hm hk hk2 hr hs)
  have h1 : ¬ N ≤ 1 := by omega
  have h2 : ¬ (200 : Int) < N := by omega
  have hN0 : ¬ N = 0 := by omega
  clear hb hr hs
  go_enter Try.func30, Try.ntmps30
  go_wp2_with fail
  refine HC.out.mono ?_
  rintro e w' ⟨⟨z, rfl, z1, z2⟩, hs, hg, hz⟩
  have hr1 : 0 ≤ z % N := Int.emod_nonneg _ hN0
  have hr2 : z % N < N := Int.emod_lt_of_pos _ (by omega)
  have HG := Lib.hid hg
  have HS := Lib.hid hs
  clear hg hs
  go_wp2
  go_ret
  exact ⟨⟨z % N, by first | rfl | (congr 2), hr1, hr2⟩, HS.out, HG.out, hz⟩
theorem all_lt {p : Nat → Bool} {n : Nat} (h : (List.range n).all p = true) {j : Nat} (hj : j < n) : p j = true := List.all_eq_true.1 h j (List.mem_range.2 hj)
/-- a quarter of a number -/
def qF (z : Int) : Nat := fop .quo .f32 (floatOfInt .f32 z) 1082130432
theorem qF_is {z : Int} (h1 : -16 ≤ z) (h2 : z ≤ 16) : floatBits .quo .f32 (floatOfInt .f32 z) 1082130432 = some (qF z) := by
  have h := all_lt (p := fun j => floatBits .quo .f32 (floatOfInt .f32 ((j : Int) - 16)) 1082130432 == some (qF ((j : Int) - 16))) (n := 33) (by decide +kernel) (j := (z + 16).toNat) (by omega)
  rw [show (((z + 16).toNat : Nat) : Int) - 16 = z from by omega] at h
  simpa using h
theorem srcNew (w : World) (v : Value) : SrcAt (w.alloc (.cells #[v, .int .i64 0, .int .u64 0] 64)) w.heap.size v 0 0 := Blk.new w 64 _
set_option maxRecDepth 100000 in
theorem l00From_any (v : Option Addr) (n c : Nat) (w : World) : Calls Try.prog 17 #[.slice v n c] w fun e w' => e = .returned (.pointer (some ⟨w.heap.size, 0, none⟩)) ∧ w.alloc (.cells #[.slice v n c, .int .i64 0, .int .u64 0] 64) = w' := by
  go_enter Try.func17, Try.ntmps17
  go_wp2
  go_ret
  exact ⟨rfl, rfl⟩
end Go.Proofs.Ytikleaiflmoffaa

-- NoiseWalk: the walk of sums of drawn numbers.
namespace Go.Proofs.Ytikleaiflmoffaa
open Ieee Go.RowKit
def nS (seed : Int) : Nat → Int
  | 0 => seed
  | j + 1 => nextS (nS seed j)
def nV (keep : Nat) (seed : Int) : Nat → Nat
  | 0 => 0
  | j + 1 => fop .add .f32 (fop .mul .f32 keep (nV keep seed j)) (drawF (nS seed (j + 1)))
def nW (keep : Nat) (seed : Int) : Nat → Nat
  | 0 => 0
  | j + 1 => fop .add .f32 (nW keep seed j) (nV keep seed (j + 1))
def walkL (keep : Nat) (seed : Int) (n : Nat) : List Nat := (List.range n).map fun j => nW keep seed (j + 1)
theorem walkL_len (keep : Nat) (seed : Int) (n : Nat) : (walkL keep seed n).length = n := by simp [walkL]
theorem walkL_snoc (keep : Nat) (seed : Int) (n : Nat) : walkL keep seed (n + 1) = walkL keep seed n ++ [nW keep seed (n + 1)] := by simp [walkL, List.range_succ]
theorem nS_bd {seed : Int} (h1 : 0 ≤ seed) (h2 : seed < 2147483648) (j : Nat) : 0 ≤ nS seed j ∧ nS seed j < 2147483648 := by
  cases j with
  | zero => exact ⟨h1, h2⟩
  | succ j => exact nextS_bd _
/-- every operation gives a number -/
structure NoiseAt (keep : Nat) (seed : Int) (j : Nat) : Prop where
  dr : floatBits .quo .f32 (floatOfInt .f32 (drawZ (nS seed (j + 1)))) 1182793728 = some (drawF (nS seed (j + 1)))
  ml : floatBits .mul .f32 keep (nV keep seed j) = some (fop .mul .f32 keep (nV keep seed j))
  ad : floatBits .add .f32 (fop .mul .f32 keep (nV keep seed j)) (drawF (nS seed (j + 1))) = some (nV keep seed (j + 1))
  sm : floatBits .add .f32 (nW keep seed j) (nV keep seed (j + 1)) = some (nW keep seed (j + 1))
end Go.Proofs.Ytikleaiflmoffaa
