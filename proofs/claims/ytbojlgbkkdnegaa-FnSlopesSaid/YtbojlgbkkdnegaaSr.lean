/- Src, R8, Noise -/
import Derived.Test.YtbojlgbkkdnegaaRe
import Derived.Test.YtbojlgbkkdnegaaBa
import Derived.Laws.Bits64b
import Derived.BigQuiet
import Derived.Test.YtbojlgbkkdnegaaLo
import Derived.OwnWalk
-- The source of choices: bytes, and then numbers of a seed.
namespace Go.Proofs.Ytbojlgbkkdnegaa
open Ieee Go.RowKit
/-- block b is just these cells -/
def Blk (w : World) (b : Nat) (t : TypeId) (cs : Array Value) : Prop := w.heap[b]? = some (.cells cs t (0, 0))
section
variable {w w' : World} {b : Nat} {t : TypeId} {cs : Array Value}
theorem Blk.lt (h : Blk w b t cs) : b < w.heap.size := (Array.getElem?_eq_some_iff.1 h).1
theorem Blk.cell (h : Blk w b t cs) (i : Nat) : w.cell? ⟨b, i, none⟩ = cs[i]? := cell_of_row w b i cs t (0, 0) h
theorem Blk.frozen (h : Blk w b t cs) (i : Nat) : w.frozen? ⟨b, i, none⟩ = false := frozen_of_row w b i cs t h
theorem Blk.new (w : World) (t : TypeId) (cs : Array Value) : Blk (w.alloc (.cells cs t)) w.heap.size t cs := heap_alloc_new w _
theorem Blk.below {B : Nat} (h : Blk w b t cs) (hb : Below B w w') (hg : b < B) : Blk w' b t cs := (hb.block b hg).trans h
theorem Blk.next (h : Blk w b t cs) (hb : Below w.heap.size w w') : Blk w' b t cs := h.below hb h.lt
theorem Blk.drewN (h : Blk w b t cs) (n : Nat) : Blk (w.drewN n) b t cs := h
theorem Blk.grown {r : Option Nat} (h : Blk w b t cs) (hg : w.grownBy w' r) (hne : some b ≠ r) : Blk w' b t cs := (hg.block b h.lt hne).trans h
theorem Blk.far (h : Blk w b t cs) {p : Addr} (hp : b ≠ p.block) (u : Value) : Blk (w.setCell p u) b t cs := (Below.heap_setCell w p u b hp).trans h
theorem Blk.set_ (h : Blk w b t cs) (i : Nat) (u : Value) : Blk (w.setCell ⟨b, i, none⟩ u) b t (cs.setIfInBounds i u) := heap_setCell_same w b i cs t u h
end
/-- a source in a block -/
def SrcAt (w : World) (g : Nat) (v : Value) (k s : Int) : Prop := Blk w g 79 #[v, .int .i64 k, .int .u64 s]
theorem grown_set (w : World) (g i : Nat) (v : Value) : w.grownBy (w.setCell ⟨g, i, none⟩ v) (some g) := ⟨rfl, rfl, rfl, by simp, fun k _ hne => Below.heap_setCell w ⟨g, i, none⟩ v k (fun h => hne (by rw [h]))⟩
theorem grown_drew {w w' : World} {r : Option Nat} (h : w.grownBy w' r) (m : Nat) : w.grownBy (w'.drewN m) r := ⟨h.os, h.tape, h.output, h.size, h.block⟩
theorem u64_in (x : Int) : 0 ≤ IntKind.u64.wrap x ∧ IntKind.u64.wrap x < 18446744073709551616 := by
  rw [IntKind.wrap_u64]
  omega
theorem and_byte (x : Int) (h1 : 0 ≤ x) (h2 : x < 18446744073709551616) : 0 ≤ bits .and .u64 (x / 2 ^ 40) 255 ∧ bits .and .u64 (x / 2 ^ 40) 255 < 256 := by
  obtain ⟨n, hn⟩ : ∃ n : Nat, x / 2 ^ 40 = (n : Int) := ⟨(x / 2 ^ 40).toNat, by omega⟩
  rw [hn, show (255 : Int) = ((255 : Nat) : Int) from rfl, bits_and_u64_nat n 255 (by omega) (by decide)]
  have := Nat.and_le_right (n := n) (m := 255)
  omega
theorem src_set {w : World} {g : Nat} {v : Value} {k s : Int} (h : SrcAt w g v k s) (k' s' : Int) (m1 m2 : Nat) :
    (∃ t, SrcAt ((((w.drewN m1).setCell ⟨g, 1, none⟩ (.int .i64 k')).setCell ⟨g, 2, none⟩ (.int .u64 s')).drewN m2) g v k' t) ∧ w.grownBy ((((w.drewN m1).setCell ⟨g, 1, none⟩ (.int .i64 k')).setCell ⟨g, 2, none⟩ (.int .u64 s')).drewN m2) (some g) ∧ ((((w.drewN m1).setCell ⟨g, 1, none⟩ (.int .i64 k')).setCell ⟨g, 2, none⟩ (.int .u64 s')).drewN m2).heap.size = w.heap.size := by
  refine ⟨⟨s', ?_⟩, ?_, ?_⟩
  · have h1 := ((Blk.drewN h m1).set_ 1 (.int .i64 k')).set_ 2 (.int .u64 s')
    have h2 := Blk.drewN h1 m2
    simpa [SrcAt] using h2
  · exact grown_drew (World.grownBy.trans' (World.grownBy.trans' (grown_drew (World.grownBy.refl w _) m1) (grown_set _ g 1 _)) (grown_set _ g 2 _)) m2
  · simp
set_option maxRecDepth 100000 in
set_option maxHeartbeats 1000000 in
theorem next_any (A : Option Addr) (n c g : Nat) (bs : List Int) (k s : Int) (w : World) (hb : ByteL bs) (hn : bs.length = n) (_hm : n ≤ 48) (hk : 0 ≤ k) (hk2 : k ≤ 100000) (hr : Rd w w.heap.size A (bs.map (Value.int .u8))) (hs : SrcAt w g (.slice A n c) k s) :
    Calls Try.prog 55 #[.pointer (some ⟨g, 0, none⟩)] w fun e w' => (∃ z, e = .returned (.int .i64 z) ∧ 0 ≤ z ∧ z < 256) ∧ (∃ s', SrcAt w' g (.slice A n c) (k + 1) s') ∧ w.grownBy w' (some g) ∧ w'.heap.size = w.heap.size := by
  have HS := Lib.hid hs
  have k0 := hs.cell 0; have k1 := hs.cell 1; have k2 := hs.cell 2
  have f1 := hs.frozen 1; have f2 := hs.frozen 2
  simp only [List.getElem?_toArray, List.getElem?_cons_zero, List.getElem?_cons_succ] at k0 k1 k2
  clear hs
  have hw : IntKind.i64.wrap (k + 1) = k + 1 := by rw [IntKind.wrap_i64]; omega
  by_cases hlt : k < (n : Int)
  · obtain ⟨kn, rfl⟩ : ∃ kn : Nat, k = kn := ⟨k.toNat, by omega⟩
    have hge : (kn : Int) + 1 ≤ (n : Int) := by omega
    obtain ⟨ad, rfl, _, hcell⟩ := hr.at_ (k := kn) (by rw [List.length_map]; omega)
    rw [List.getElem_map] at hcell
    obtain ⟨b1, b2⟩ := hb bs[kn] (List.getElem_mem (by omega))
    obtain ⟨b, hbe⟩ : ∃ b, b = bs[kn] := ⟨_, rfl⟩
    rw [← hbe] at hcell b1 b2
    clear hbe hb hr
    go_enter Try.func55, Try.ntmps55
    go_wp2_with fail
    go_quiet (fail)
    go_wp2_with fail
    go_quiet (fail)
    go_wp2_with fail
    go_quiet (fail)
    go_wp2_with fail
    go_ret
    obtain ⟨g1, g2, g3⟩ := src_set HS.out ((kn : Int) + 1) _ _ _
    exact ⟨⟨b, rfl, b1, b2⟩, g1, g2, g3⟩
  · have hge : ¬ k + 1 ≤ (n : Int) := by omega
    clear hb hr
    go_enter Try.func55, Try.ntmps55
    go_wp2_with fail
    go_quiet (fail)
    go_wp2_with fail
    go_quiet (fail)
    go_wp2_with fail
    go_ret
    obtain ⟨g1, g2, g3⟩ := src_set HS.out (k + 1) _ _ _
    obtain ⟨x1, x2⟩ := and_byte _ (u64_in (IntKind.u64.wrap (IntKind.u64.wrap (s * 6364136223846793005)) + 1442695040888963407)).1 (u64_in _).2
    have x3 : wrap64 (bits .and .u64 (IntKind.u64.wrap (IntKind.u64.wrap (IntKind.u64.wrap (s * 6364136223846793005)) + 1442695040888963407) / 2 ^ 40) 255) = bits .and .u64 (IntKind.u64.wrap (IntKind.u64.wrap (IntKind.u64.wrap (s * 6364136223846793005)) + 1442695040888963407) / 2 ^ 40) 255 := by unfold wrap64; omega
    exact ⟨⟨_, congrArg (fun z => Ending.returned (.int .i64 z)) x3, x1, x2⟩, g1, g2, g3⟩
end Go.Proofs.Ytbojlgbkkdnegaa

-- Lists that a source chooses.
namespace Go.Proofs.Ytbojlgbkkdnegaa
open Ieee Go.RowKit
set_option maxRecDepth 100000 in
set_option maxHeartbeats 1000000 in
theorem pick_any (A : Option Addr) (n c g : Nat) (bs : List Int) (k s N : Int) (w : World) (hb : ByteL bs) (hn : bs.length = n) (hm : n ≤ 48) (hk : 0 ≤ k) (hk2 : k ≤ 100000) (hN : 2 ≤ N) (hN2 : N ≤ 200) (hr : Rd w w.heap.size A (bs.map (Value.int .u8))) (hs : SrcAt w g (.slice A n c) k s) :
    Calls Try.prog 36 #[.pointer (some ⟨g, 0, none⟩), .int .i64 N] w fun e w' => (∃ z, e = .returned (.int .i64 z) ∧ 0 ≤ z ∧ z < N) ∧ (∃ s', SrcAt w' g (.slice A n c) (k + 1) s') ∧ w.grownBy w' (some g) ∧ w'.heap.size = w.heap.size := by
  have HC := Lib.hid (next_any A n c g bs k s w hb hn hm hk hk2 hr hs)
  have h1 : ¬ N ≤ 1 := by omega
  have h2 : ¬ (200 : Int) < N := by omega
  have hN0 : ¬ N = 0 := by omega
  clear hb hr hs
  go_enter Try.func36, Try.ntmps36
  go_wp2_with fail
  refine HC.out.mono ?_
  rintro e w' ⟨⟨z, rfl, z1, z2⟩, hs, hg, hz⟩
  have hr1 : 0 ≤ z % N := Int.emod_nonneg _ hN0
  have hr2 : z % N < N := Int.emod_lt_of_pos _ (by omega)
  have HG := Lib.hid hg
  have HS := Lib.hid hs
  clear hg hs
  go_wp2
  go_ret
  exact ⟨⟨z % N, by first | rfl | (congr 2), hr1, hr2⟩, HS.out, HG.out, hz⟩
theorem all_lt {p : Nat → Bool} {n : Nat} (h : (List.range n).all p = true) {j : Nat} (hj : j < n) : p j = true := List.all_eq_true.1 h j (List.mem_range.2 hj)
/-- a quarter of a number -/
def qF (z : Int) : Nat := fop .quo .f32 (floatOfInt .f32 z) 1082130432
theorem qF_is {z : Int} (h1 : -16 ≤ z) (h2 : z ≤ 16) : floatBits .quo .f32 (floatOfInt .f32 z) 1082130432 = some (qF z) := by
  have h := all_lt (p := fun j => floatBits .quo .f32 (floatOfInt .f32 ((j : Int) - 16)) 1082130432 == some (qF ((j : Int) - 16))) (n := 33) (by decide +kernel) (j := (z + 16).toNat) (by omega)
  rw [show (((z + 16).toNat : Nat) : Int) - 16 = z from by omega] at h
  simpa using h
theorem srcNew (w : World) (v : Value) : SrcAt (w.alloc (.cells #[v, .int .i64 0, .int .u64 0] 79)) w.heap.size v 0 0 := Blk.new w 79 _
set_option maxRecDepth 100000 in
theorem l00From_any (v : Option Addr) (n c : Nat) (w : World) : Calls Try.prog 35 #[.slice v n c] w fun e w' => e = .returned (.pointer (some ⟨w.heap.size, 0, none⟩)) ∧ w.alloc (.cells #[.slice v n c, .int .i64 0, .int .u64 0] 79) = w' := by
  go_enter Try.func35, Try.ntmps35
  go_wp2
  go_ret
  exact ⟨rfl, rfl⟩
set_option maxRecDepth 100000 in
set_option maxHeartbeats 4000000 in
theorem r8List_any (A : Option Addr) (n c : Nat) (bs : List Int) (w : World) (hb : ByteL bs) (hn : bs.length = n) (hm : n ≤ 48) (hr : Rd w w.heap.size A (bs.map (Value.int .u8))) :
    Calls Try.prog 12 #[.slice A n c, .int .i64 8] w fun e w' => (∃ (A' : Option Addr) (c' : Nat) (zs : List Int), e = .returned (.slice A' 8 c') ∧ zs.length = 8 ∧ (∀ z ∈ zs, -16 ≤ z ∧ z ≤ 16) ∧ w'.ownsRow w.heap.size 25 1 (.slice A' 8 c') 8 (zs.map fun z => Value.float .f32 (qF z))) ∧ Below w.heap.size w w' := by
  obtain ⟨i0, hi, hz0, hz1, hz2⟩ := info_parts Try.info25
  have hcv := fun (z : Int) (W : World) => run_convert_int_float (P := Try.prog) W 2 25 .i64 .f32 z (by rw [Try.underlying2]; rfl) Try.und25
  have Hr := Lib.hid hr
  have HBy := Lib.hid hb
  have HN : Hid (((w.alloc (.cells #[.slice A n c, .int .i64 0, .int .u64 0] 79)).alloc (.cells #[] 25)).ownsRow (w.heap.size + 1) 25 1 (.slice (some ⟨w.heap.size + 1, 0, none⟩) 0 0) 0 []) := Lib.hid (by
    have h := World.ownsRow_made (base := w.heap.size + 1) (e := 25) (size := 1) (w.alloc (.cells #[.slice A n c, .int .i64 0, .int .u64 0] 79)) #[] 0 (by simp) (Nat.zero_le _) rfl
    simpa using h)
  have HS0 : Hid (SrcAt ((w.alloc (.cells #[.slice A n c, .int .i64 0, .int .u64 0] 79)).alloc (.cells #[] 25)) w.heap.size (.slice A n c) 0 0) := Lib.hid (Blk.next (srcNew w _) (below_new _ _))
  clear hr hb
  go_enter Try.func12, Try.ntmps12
  go_wp2_with fail
  refine (l00From_any A n c w).mono ?_
  rintro e w' ⟨rfl, rfl⟩
  go_wp2_with fail
  go_loopw [1, 6] (fun i v wr => ∃ (k : Nat) (zs : List Int) (s : Int), k ≤ 8 ∧ i = .int .i64 (8 - (k : Int)) ∧ Hid (zs.length = k) ∧ Hid (∀ z ∈ zs, -16 ≤ z ∧ z ≤ 16) ∧ wr.ownsRow (w.heap.size + 1) 25 1 v zs.length (zs.map fun z => Value.float .f32 (qF z)) ∧ SrcAt wr w.heap.size (.slice A n c) k s ∧ w.heap.size < wr.heap.size ∧ Below w.heap.size w wr) (fun i _ _ => (intOf i).toNat)
  case atStart => exact ⟨0, [], 0, by omega, rfl, Lib.hid rfl, Lib.hid (fun z hz => by cases hz), HN.out, HS0.out, by simp; omega, (below_new w _).trans ((below_new _ _).mono (by simp))⟩
  case round =>
    obtain ⟨k, zs, s, hk, rfl, HL, HZ, hv, hs, hz, hb⟩ := hrel
    have HV := Lib.hid hv
    have HB := Lib.hid hb
    have HS := Lib.hid hs
    clear hv hb hs
    obtain ⟨Av, cv, rfl, hrv⟩ := shapeOf HV.out
    clear hrv
    by_cases hlt : k < 8
    · have h0 : (0 : Int) < 8 - (k : Int) := by omega
      have HP := Lib.hid (fun W (h : W = wr) => pick_any A n c w.heap.size bs k s 33 W HBy.out hn hm (by omega) (by omega) (by omega) (by omega) (by subst h; exact (Hr.out.below HB.out).more HB.out.size) (by subst h; exact HS.out))
      go_wp2_with fail
      refine (HP.out _ rfl).mono ?_
      rintro e w2 ⟨⟨z, rfl, z1, z2⟩, ⟨s2, hs2⟩, hg2, hsz⟩
      have hz2' : w.heap.size < w2.heap.size := by omega
      have HS2 := Lib.hid hs2
      have HV2 := Lib.hid (HV.out.kept hg2 (.inr (fun he => by have := (HV.out.lt _ he).1; omega)))
      have HB2 := Lib.hid (HB.out.grown hg2 HB.out.size (fun q hq => by injection hq with hq; omega))
      have hg := run_num (P := Try.prog) (qF_is (z := z - 16) (by omega) (by omega))
      have hwr : IntKind.i64.wrap (z - 16) = z - 16 := by rw [IntKind.wrap_i64]; omega
      have hl8 : zs.length ≤ 8 := by rw [HL.out]; exact hk
      clear hs2 hg2 hsz HV HB HS HP
      go_wp2_with (at_builtin; go_must (refine wpList_append_own_at _ rfl (.tmp 14) (.tmp 20) 26 rfl (w.heap.size + 1) 25 i0 (.float .f32 0) 1 4 Try.underlying26 hi hz0 hz1 hz2 rfl (by decide) _ _ _ rfl (HV2.out.alloc _) ⟨w2.heap.size, 0, none⟩ 1 1 [.float .f32 (qF (z - 16))] rfl rfl (newOne w2 _ 25) (oneF _ _) ?_ ?_ ?_ ?_))
      · unfold maxLen; omega
      · omega
      · simp; omega
      intro v' w7 hown' hgrow _ hat'
      have HV7 : Hid (w7.ownsRow (w.heap.size + 1) 25 1 v' (zs ++ [z - 16]).length ((zs ++ [z - 16]).map fun z => Value.float .f32 (qF z))) := Lib.hid (by simpa using hown')
      have HB7 := Lib.hid ((HB2.out.alloc HB2.out.size (.cells #[.float .f32 (qF (z - 16))] 25)).grown hgrow (by simp; omega) (fun q hq => Nat.le_of_succ_le (HV2.out.lt q hq).1))
      have HS7 := Lib.hid (Blk.grown (Blk.next HS2.out (below_new w2 (.cells #[.float .f32 (qF (z - 16))] 25))) hgrow (fun he => by have := (HV2.out.lt _ he.symm).1; omega))
      have hz7 : w.heap.size < w7.heap.size := by have := hgrow.size; simp at this; omega
      have HL7 : Hid ((zs ++ [z - 16]).length = k + 1) := Lib.hid (by rw [List.length_append, HL.out]; rfl)
      have HZ7 : Hid (∀ y ∈ zs ++ [z - 16], -16 ≤ y ∧ y ≤ 16) := Lib.hid (fun y hy => by
        rcases List.mem_append.1 hy with hy | hy
        · exact HZ.out y hy
        · simp at hy; omega)
      clear hown' hgrow hat'
      go_wp2
      go_roundw
      case rel =>
        exact ⟨k + 1, zs ++ [z - 16], s2, by omega, by first | go_num | (congr 1; omega), HL7, HZ7, HV7.out, HS7.out, hz7, HB7.out⟩
      case measure => simp [intOf]; omega
    · obtain rfl : k = 8 := by omega
      have HF := Lib.hid (own_base (b' := w.heap.size) HV.out (by omega))
      have HL8 := Lib.hid HL.out
      rw [HL.out] at HF
      go_wp2
      go_ret
      rw [HL8.out]
      exact ⟨⟨Av, cv, zs, rfl, HL8.out, HZ.out, HF.out⟩, HB.out⟩
end Go.Proofs.Ytbojlgbkkdnegaa

-- NoiseWalk: the walk of sums of drawn numbers.
namespace Go.Proofs.Ytbojlgbkkdnegaa
open Ieee Go.RowKit
def nS (seed : Int) : Nat → Int
  | 0 => seed
  | j + 1 => nextS (nS seed j)
def nV (keep : Nat) (seed : Int) : Nat → Nat
  | 0 => 0
  | j + 1 => fop .add .f32 (fop .mul .f32 keep (nV keep seed j)) (drawF (nS seed (j + 1)))
def nW (keep : Nat) (seed : Int) : Nat → Nat
  | 0 => 0
  | j + 1 => fop .add .f32 (nW keep seed j) (nV keep seed (j + 1))
def walkL (keep : Nat) (seed : Int) (n : Nat) : List Nat := (List.range n).map fun j => nW keep seed (j + 1)
theorem walkL_len (keep : Nat) (seed : Int) (n : Nat) : (walkL keep seed n).length = n := by simp [walkL]
theorem walkL_snoc (keep : Nat) (seed : Int) (n : Nat) : walkL keep seed (n + 1) = walkL keep seed n ++ [nW keep seed (n + 1)] := by simp [walkL, List.range_succ]
theorem nS_bd {seed : Int} (h1 : 0 ≤ seed) (h2 : seed < 2147483648) (j : Nat) : 0 ≤ nS seed j ∧ nS seed j < 2147483648 := by
  cases j with
  | zero => exact ⟨h1, h2⟩
  | succ j => exact nextS_bd _
/-- every operation gives a number -/
structure NoiseAt (keep : Nat) (seed : Int) (j : Nat) : Prop where
  dr : floatBits .quo .f32 (floatOfInt .f32 (drawZ (nS seed (j + 1)))) 1182793728 = some (drawF (nS seed (j + 1)))
  ml : floatBits .mul .f32 keep (nV keep seed j) = some (fop .mul .f32 keep (nV keep seed j))
  ad : floatBits .add .f32 (fop .mul .f32 keep (nV keep seed j)) (drawF (nS seed (j + 1))) = some (nV keep seed (j + 1))
  sm : floatBits .add .f32 (nW keep seed j) (nV keep seed (j + 1)) = some (nW keep seed (j + 1))
set_option maxRecDepth 100000 in
set_option maxHeartbeats 1000000 in
theorem isSeed_any (s : Int) (w : World) (h1 : 0 ≤ s) (h2 : s < 2147483648) : Calls Try.prog 27 #[.int .i64 s] w fun e w' => e = .returned (.bool true) ∧ w = w' := by
  have h3 : inB s 0 2147483647 = true := by simp [inB]; omega
  go_enter Try.func27, Try.ntmps27
  go_wp2_with fail
  refine (within_any s 0 2147483647 w).mono ?_
  rintro e w' ⟨rfl, rfl⟩
  rw [h3]
  go_wp2
  go_ret
  exact ⟨rfl, rfl⟩
set_option maxRecDepth 100000 in
set_option maxHeartbeats 4000000 in
theorem noiseWalk_any (n keep : Nat) (seed : Int) (w : World) (hn : n ≤ 256) (hk1 : (FloatKind.f32.format.order keep 3212836864 == some .gt || FloatKind.f32.format.order keep 3212836864 == some .eq) = true) (hk2 : (FloatKind.f32.format.order keep 1065353216 == some .lt || FloatKind.f32.format.order keep 1065353216 == some .eq) = true)
    (h1 : 0 ≤ seed) (h2 : seed < 2147483648) (hok : ∀ j, j < n → NoiseAt keep seed j) :
    Calls Try.prog 7 #[.int .i64 n, .float .f32 keep, .int .i64 seed] w fun e w' => (∃ A c, e = .returned (.tuple #[.slice A n c, .int .i64 (nS seed n), .bool true]) ∧ w'.ownsRow w.heap.size 25 1 (.slice A n c) n ((walkL keep seed n).map (Value.float .f32))) ∧ Below w.heap.size w w' := by
  obtain ⟨i0, hi, hz0, hz1, hz2⟩ := info_parts Try.info25
  have HOK := Lib.hid hok
  have h3 : inB n 0 256 = true := by simp [inB]; omega
  have HW := Lib.hid (within_any n 0 256 w)
  rw [h3] at HW
  have HSD := Lib.hid (isSeed_any seed w h1 h2)
  clear hok h3
  go_enter Try.func7, Try.ntmps7
  go_wp2_with fail
  refine HW.out.mono ?_
  rintro e w' ⟨rfl, rfl⟩
  go_wp2_with fail
  refine HSD.out.mono ?_
  rintro e w' ⟨rfl, rfl⟩
  clear HW HSD
  go_wp2_with fail
  have HN0 := Lib.hid (own_nilF w 25 w.heap.size (Nat.le_refl _))
  go_loopw [2, 9, 10, 11, 33] (fun s o x v i wr => ∃ j : Nat, j ≤ n ∧ i = .int .i64 j ∧ s = .int .i64 (nS seed j) ∧ x = .float .f32 (nW keep seed j) ∧ v = .float .f32 (nV keep seed j) ∧ wr.ownsRow w.heap.size 25 1 o (walkL keep seed j).length ((walkL keep seed j).map (Value.float .f32)) ∧ Below w.heap.size w wr) (fun _ _ _ _ i _ => n - (intOf i).toNat)
  case atStart => exact ⟨0, Nat.zero_le _, rfl, rfl, rfl, rfl, HN0.out, below_new w _⟩
  case round =>
    obtain ⟨j, hj, rfl, rfl, rfl, rfl, hv, hb⟩ := hrel
    have HV := Lib.hid hv
    have HB := Lib.hid hb
    have hwz := HB.out.size
    clear hv hb
    obtain ⟨Av, cv, rfl, hrv⟩ := shapeOf HV.out
    clear hrv
    by_cases hlt : j < n
    · have hA := HOK.out j hlt
      obtain ⟨b1, b2⟩ := nS_bd h1 h2 j
      have HD := Lib.hid (fun W => draw_any (nS seed j) W b1 b2 hA.dr)
      have g1 := run_num (P := Try.prog) hA.ml
      have g2 := run_num (P := Try.prog) hA.ad
      have g3 := run_num (P := Try.prog) hA.sm
      have HL := Lib.hid (walkL_len keep seed j)
      have HS := Lib.hid (walkL_snoc keep seed j)
      have hl2 : (walkL keep seed j).length ≤ 256 := by rw [HL.out]; omega
      obtain ⟨s2, hs2⟩ : ∃ s2, s2 = nS seed (j + 1) := ⟨_, rfl⟩
      have hs3 : nextS (nS seed j) = s2 := hs2.symm
      rw [hs3] at HD
      rw [← hs2] at g2
      obtain ⟨x2, hx2⟩ : ∃ x2, x2 = nW keep seed (j + 1) := ⟨_, rfl⟩
      rw [← hx2] at HS g3
      have HS2 := Lib.hid hs2
      have HX2 := Lib.hid hx2
      clear hA b1 b2 hs2 hs3 hx2
      go_wp2_with fail
      refine (HD.out _).mono ?_
      rintro e w' ⟨rfl, rfl⟩
      go_wp2_with (at_builtin; go_must (refine wpList_append_own_at _ rfl (.tmp 49) (.tmp 51) 26 rfl w.heap.size 25 i0 (.float .f32 0) 1 4 Try.underlying26 hi hz0 hz1 hz2 rfl (by decide) _ _ _ rfl (HV.out.alloc _) ⟨wr.heap.size, 0, none⟩ 1 1 [.float .f32 x2] rfl rfl (newOne wr _ 25) (oneF _ _) ?_ ?_ ?_ ?_))
      · unfold maxLen; omega
      · omega
      · simp; omega
      intro v' w7 hown' hgrow _ hat'
      have HV7 := Lib.hid (own_appF hown')
      have HB7 := Lib.hid ((HB.out.alloc HB.out.size (.cells #[.float .f32 x2] 25)).grown hgrow (by simp; omega) (fun q hq => (HV.out.lt q hq).1))
      clear hown' hgrow hat'
      go_wp2
      go_roundw
      case rel => exact ⟨j + 1, by omega, by go_num, by rw [HS2.out], by rw [HX2.out], rfl, by rw [HS.out]; exact HV7.out, HB7.out⟩
      case measure => simp [intOf]; omega
    · obtain rfl : n = j := by omega
      have HF := Lib.hid HV.out
      rw [walkL_len] at HF ⊢
      go_wp2
      go_ret3
      exact ⟨⟨Av, cv, rfl, HF.out⟩, HB.out⟩
end Go.Proofs.Ytbojlgbkkdnegaa
