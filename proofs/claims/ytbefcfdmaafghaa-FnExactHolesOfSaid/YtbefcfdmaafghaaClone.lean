/- Copies of a field that the program makes: both ways. -/
import Derived.Test.YtbefcfdmaafghaaEmpty
import Derived.Deep.RegionHeld3
import Derived.Deep.RegionHeldLaw
import Derived.Deep.AppendLies
namespace Go.Proofs.Ytbefcfdmaafghaa
open Go.RowKit
theorem one_bools (l : List Bool) : ∀ u ∈ l.map Value.bool, u.oneCell' = true := by
  intro u hu
  rw [List.mem_map] at hu
  obtain ⟨x, _, rfl⟩ := hu
  rfl
theorem Rd.some {w : World} {B : Nat} {A : Option Addr} {xs : List Value} (h : Rd w B A xs) (h0 : 0 < xs.length) : ∃ ad, A = .some ad ∧ ad.block < B ∧ ∀ j u, xs[j]? = .some u → w.cell? (ad.add j) = .some u := by
  rcases h with rfl | h
  · simp at h0
  · exact h
set_option maxHeartbeats 1000000 in
set_option maxRecDepth 100000 in
theorem cloneBool_any (A : Option Addr) (n c : Nat) (bs : List Bool) (w : World) (hn : bs.length = n) (h0 : 0 < n) (hc : n ≤ 1048576) (hr : Rd w w.heap.size A (bs.map Value.bool)) :
    Calls Try.prog 127 #[.slice A n c] w fun e w' => (∃ g cp, e = .returned (.slice (some ⟨g, 0, none⟩) n cp) ∧ w'.ownsRow w.heap.size 4 1 (.slice (some ⟨g, 0, none⟩) n cp) n (bs.map Value.bool)) ∧ Below w.heap.size w w' := by
  obtain ⟨i0, hi, hz0, hz1, hz2⟩ := info_parts Try.info4
  obtain ⟨ad, rfl, had, hcl⟩ := hr.some (by rw [List.length_map]; omega)
  have HC : Hid (∀ j u, (bs.map Value.bool)[j]? = some u → (w.alloc (.cells #[] 4)).cell? (ad.add j) = some u) := Lib.hid fun j u hu => by
    rw [World.cell?_alloc_lt _ _ _ (by rw [add_block]; exact had)]; exact hcl j u hu
  have HN : Hid ((w.alloc (.cells #[] 4)).ownsRow w.heap.size 4 1 (.slice (some ⟨w.heap.size, 0, none⟩) 0 0) 0 []) := Lib.hid (World.ownsRow_made w #[] 0 (Nat.le_refl _) (Nat.zero_le _) rfl)
  have hn1 : (bs.map Value.bool).length = n * 1 := by simp [hn]
  have HL := Lib.hid hn1
  clear hr hcl hn hn1
  have he := Lib.run_eql_slice_nil (P := Try.prog) w 22 4 (some ad) n c 0 0 Try.underlying22
  go_enter Try.func127, Try.ntmps127
  go_wp2_with (at_builtin; go_must (refine wpList_append_lies _ rfl (.tmp 5) (.tmp 6) 22 rfl w.heap.size 4 i0 (.bool false) 1 1 Try.underlying22 hi hz0 hz1 hz2 rfl (by decide) _ _ _ rfl HN.out ad n c (bs.map Value.bool) rfl HL.out HC.out (one_bools _) h0 ?_ ?_ ?_ _ rfl ?_))
  · unfold maxLen; omega
  · omega
  · simp
  intro g cp w1 ho hg _ _
  have HO : Hid (w1.ownsRow w.heap.size 4 1 (.slice (some ⟨g, 0, none⟩) n cp) n (bs.map Value.bool)) := Lib.hid (by simpa using ho)
  have HB := Lib.hid ((below_new w (.cells #[] 4)).grown hg (by simp) (fun k hk => (HN.out.lt k hk).1))
  clear ho hg
  go_wp2
  go_ret
  exact ⟨⟨g, cp, by simp, HO.out⟩, HB.out⟩

theorem fbox3 {w w' : World} {B b : Nat} {u0 u1 u2 : Value} (hb : Below B w w') (h : b < B) (hx : w.cell? ⟨b, 0, none⟩ = some u0 ∧ w.cell? ⟨b, 1, none⟩ = some u1 ∧ w.cell? ⟨b, 2, none⟩ = some u2) :
    w'.cell? ⟨b, 0, none⟩ = some u0 ∧ w'.cell? ⟨b, 1, none⟩ = some u1 ∧ w'.cell? ⟨b, 2, none⟩ = some u2 :=
  ⟨(hb.cell (p := ⟨b, 0, none⟩) h).trans hx.1, (hb.cell (p := ⟨b, 1, none⟩) h).trans hx.2.1, (hb.cell (p := ⟨b, 2, none⟩) h).trans hx.2.2⟩
/-- a box of three cells that may be written -/
def Open3 (w : World) (b : Nat) : Prop :=
  (w.cell? ⟨b, 0, none⟩ = some (.int .i64 0) ∧ w.cell? ⟨b, 1, none⟩ = some (.int .i64 0) ∧ w.cell? ⟨b, 2, none⟩ = some (.slice none 0 0)) ∧ w.frozen? ⟨b, 0, none⟩ = false ∧ w.frozen? ⟨b, 1, none⟩ = false ∧ w.frozen? ⟨b, 2, none⟩ = false
theorem Open3.below {w w' : World} {B b : Nat} (h : Open3 w b) (hb : Below B w w') (hlt : b < B) : Open3 w' b :=
  ⟨fbox3 hb hlt h.1, (hb.frozen (p := ⟨b, 0, none⟩) hlt).trans h.2.1, (hb.frozen (p := ⟨b, 1, none⟩) hlt).trans h.2.2.1, (hb.frozen (p := ⟨b, 2, none⟩) hlt).trans h.2.2.2⟩
set_option maxHeartbeats 2000000 in
set_option maxRecDepth 100000 in
theorem copyField_any (wd hg : Int) (A : Option Addr) (n c : Nat) (bs : List Bool) (w : World) (hn : bs.length = n) (h0 : 0 < n) (hc : n ≤ 1048576) (hr : Rd w w.heap.size A (bs.map Value.bool)) :
    Calls Try.prog 101 #[.agg #[.int .i64 wd, .int .i64 hg, .slice A n c]] w fun e w' => GivesField w.heap.size wd hg bs e w' ∧ Below w.heap.size w w' := by
  have Hr := Lib.hid hr; clear hr
  obtain ⟨W0, hW0⟩ : ∃ W0, W0 = (w.alloc (.cells #[.int .i64 wd, .int .i64 hg, .slice A n c] 27)).alloc (.cells #[.int .i64 0, .int .i64 0, .slice none 0 0] 27) := ⟨_, rfl⟩
  have B0 : Hid (Below w.heap.size w W0) := Lib.hid (by rw [hW0]; exact bthen (below_new w _) (below_new _ _))
  have z0 : W0.heap.size = w.heap.size + 2 := by rw [hW0]; simp
  have K0 : W0.cell? ⟨w.heap.size, 0, none⟩ = some (.int .i64 wd) ∧ W0.cell? ⟨w.heap.size, 1, none⟩ = some (.int .i64 hg) ∧ W0.cell? ⟨w.heap.size, 2, none⟩ = some (.slice A n c) := by rw [hW0]; exact ⟨by simp [go_sem], by simp [go_sem], by simp [go_sem]⟩
  have X0 : Hid (Open3 W0 (w.heap.size + 1)) := Lib.hid (by rw [hW0]; exact ⟨⟨by simp [go_sem], by simp [go_sem], by simp [go_sem]⟩, by simp [go_sem], by simp [go_sem], by simp [go_sem]⟩)
  have Z0 := Lib.hid z0
  have HW := Lib.hid hW0
  have R0 := Lib.hid ((Hr.out.below B0.out).more B0.out.size)
  have C := cloneBool_any A n c bs W0.drew hn h0 hc (Lib.hid R0.out).out
  have HC := Lib.hid C
  have Hn := Lib.hid hn
  clear C hn
  go_enter Try.func101, Try.ntmps101
  go_wp2_with fail
  rw [← hW0]
  clear hW0 z0
  obtain ⟨k0, k1, k2⟩ := K0
  have H0 := Lib.hid (show W0.cell? ⟨w.heap.size, 0, none⟩ = some (.int .i64 wd) ∧ W0.cell? ⟨w.heap.size, 1, none⟩ = some (.int .i64 hg) ∧ W0.cell? ⟨w.heap.size, 2, none⟩ = some (.slice A n c) from ⟨k0, k1, k2⟩)
  go_region_held3 (fun w' => w'.cell? ⟨w.heap.size, 0, none⟩ = some (.int .i64 wd) ∧ w'.cell? ⟨w.heap.size, 1, none⟩ = some (.int .i64 hg) ∧ w'.cell? ⟨w.heap.size, 2, none⟩ = some (.slice A n c)) (first | exact H0.out | exact H1.out | exact fbox3 ((((Below.refl (w.heap.size + 1) _).setCell (Nat.le_refl _) _).setCell (Nat.le_refl _) _).setCell (Nat.le_refl _) _) (Nat.lt_succ_self _) H1.out)
    ((go_at_call 127; go_must (refine HC.out.mono ?_); rintro e w1 ⟨⟨g, cp, rfl, ho⟩, hbd⟩; have hb1 := undrew hbd; have B1 := Lib.hid hb1; have HO := Lib.hid ho; have H1 := Lib.hid (fbox3 hb1 (show w.heap.size < W0.heap.size by rw [Z0.out]; omega) H0.out); obtain ⟨⟨x0, x1, x2⟩, y0, y1, y2⟩ := X0.out.below hb1 (show w.heap.size + 1 < W0.heap.size by rw [Z0.out]; omega)))
  have hlt : W0.heap.size ≤ g := (HO.out.lt g rfl).1
  have hz0 := Z0.out
  have hO := HO.out
  have hB := B1.out
  clear H0 H1 B1 HO HC k0 k1 k2
  go_wp2
  refine bodyPost_ret (v := .agg #[.int .i64 wd, .int .i64 hg, .slice (some ⟨g, 0, none⟩) n cp]) (by simp [results, Try.results101, go_sem, x0, x1, x2]) rfl ⟨⟨g, cp, by rw [Hn.out], ?_⟩, ?_⟩
  · rw [Hn.out]
    exact own_set (own_set (own_set (own_base hO (by show w.heap.size ≤ W0.heap.size; omega)) (by rintro a ⟨⟩; simp; omega) _) (by rintro a ⟨⟩; simp; omega) _) (by rintro a ⟨⟩; simp; omega) _
  · exact ((((B0.out.trans (hB.mono (by omega))).setCell (by simp) _).setCell (by simp) _).setCell (by simp) _)

set_option maxHeartbeats 2000000 in
set_option maxRecDepth 100000 in
theorem l07Own_any (wd hg : Int) (A : Option Addr) (n c b : Nat) (bs : List Bool) (w : World) (hn : bs.length = n) (h0 : 0 < n) (hc : n ≤ 1048576) (hr : Rd w w.heap.size A (bs.map Value.bool)) (hx : FBox w b wd hg (.slice A n c)) (hb : b < w.heap.size) :
    Calls Try.prog 97 #[.pointer (some ⟨b, 0, none⟩)] w fun e w' => GivesField w.heap.size wd hg bs e w' ∧ Below w.heap.size w w' := by
  obtain ⟨i0, hi, hz0, hz1, hz2⟩ := info_parts Try.info4
  obtain ⟨W0, hW0⟩ : ∃ W0, W0 = w.alloc (.cells #[.int .i64 0, .int .i64 0, .slice none 0 0] 27) := ⟨_, rfl⟩
  have B0 : Hid (Below w.heap.size w W0) := Lib.hid (by rw [hW0]; exact below_new w _)
  have z0 : W0.heap.size = w.heap.size + 1 := by rw [hW0]; simp
  have K0 : W0.cell? ⟨b, 0, none⟩ = some (.int .i64 wd) ∧ W0.cell? ⟨b, 1, none⟩ = some (.int .i64 hg) ∧ W0.cell? ⟨b, 2, none⟩ = some (.slice A n c) := fbox3 B0.out hb hx
  have X0 : Hid (Open3 W0 w.heap.size) := Lib.hid (by rw [hW0]; exact ⟨⟨by simp [go_sem], by simp [go_sem], by simp [go_sem]⟩, by simp [go_sem], by simp [go_sem], by simp [go_sem]⟩)
  have Z0 := Lib.hid z0
  obtain ⟨ad, rfl, had, hcl⟩ := hr.some (by rw [List.length_map]; omega)
  have HC : Hid (∀ j u, (bs.map Value.bool)[j]? = some u → (W0.alloc (.cells #[] 4)).drew.cell? (ad.add j) = some u) := Lib.hid fun j u hu => by
    show (W0.alloc (.cells #[] 4)).cell? (ad.add j) = _
    rw [World.cell?_alloc_lt _ _ _ (by rw [add_block]; show ad.block < W0.heap.size; omega)]
    exact (B0.out.cell (p := ad.add j) (by rw [add_block]; exact had)).trans (hcl j u hu)
  have HN : Hid ((W0.alloc (.cells #[] 4)).drew.ownsRow w.heap.size 4 1 (.slice (some ⟨W0.heap.size, 0, none⟩) 0 0) 0 []) := Lib.hid (World.ownsRow_made W0.drew #[] 0 (by show w.heap.size ≤ W0.heap.size; omega) (Nat.zero_le _) rfl)
  have HBW : Hid (b < W0.heap.size) := Lib.hid (by omega)
  have HZZ : Hid (w.heap.size ≤ (W0.alloc (.cells #[] 4)).drew.heap.size) := Lib.hid (by show w.heap.size ≤ (W0.alloc (.cells #[] 4)).heap.size; rw [World.size_alloc]; omega)
  have HL : Hid ((bs.map Value.bool).length = n * 1) := Lib.hid (by simp [hn])
  have Hn := Lib.hid hn
  clear hn hx hr hcl
  go_enter Try.func97, Try.ntmps97
  go_wp2_with fail
  rw [← hW0]
  clear hW0 z0
  obtain ⟨k0, k1, k2⟩ := K0
  have H0 := Lib.hid (show W0.cell? ⟨b, 0, none⟩ = some (.int .i64 wd) ∧ W0.cell? ⟨b, 1, none⟩ = some (.int .i64 hg) ∧ W0.cell? ⟨b, 2, none⟩ = some (.slice (some ad) n c) from ⟨k0, k1, k2⟩)
  go_region_held_law (fun w' => w'.cell? ⟨b, 0, none⟩ = some (.int .i64 wd) ∧ w'.cell? ⟨b, 1, none⟩ = some (.int .i64 hg) ∧ w'.cell? ⟨b, 2, none⟩ = some (.slice (some ad) n c)) (first | exact H0.out | exact fbox3 (Below.drew ((Below.refl W0.heap.size W0).alloc (Nat.le_refl _) _)) HBW.out H0.out | exact H1.out | exact fbox3 ((((Below.refl w.heap.size _).setCell (Nat.le_refl _) _).setCell (Nat.le_refl _) _).setCell (Nat.le_refl _) _) hb H1.out)
    ((refine step_append_lies _ rfl (.tmp 11) (.tmp 15) 22 rfl w.heap.size 4 i0 (.bool false) 1 1 Try.underlying22 hi hz0 hz1 hz2 rfl (by decide) _ _ _ (by simp [Act.eval]) HN.out ad n c (bs.map Value.bool) (by simp [Act.eval]) HL.out HC.out (one_bools _) h0 (by unfold maxLen; omega) (by omega) HZZ.out _ rfl ?_; intro g cp w1 ho hg1 hat hltg; have hbd : Below W0.heap.size W0 w1 := (Below.drew (below_new W0 (.cells #[] 4))).grown hg1 (by simp) (fun k hk => by simp [Value.ownBlock] at hk; omega); have hb1 := hbd; have B1 := Lib.hid hb1; have HO := Lib.hid ho; have H1 := Lib.hid (fbox3 hb1 (show b < W0.heap.size by rw [Z0.out]; omega) H0.out); obtain ⟨⟨x0, x1, x2⟩, y0, y1, y2⟩ := X0.out.below hb1 (show w.heap.size < W0.heap.size by rw [Z0.out]; omega)))
  have hlt : W0.heap.size ≤ g := by
    rcases hat with h | h
    · have : W0.heap.size = g := by simpa [Value.ownBlock] using h
      omega
    · simp at h; omega
  have hz0 := Z0.out
  have hO : w1.ownsRow w.heap.size 4 1 (.slice (some ⟨g, 0, none⟩) n cp) n (bs.map Value.bool) := by simpa using HO.out
  have hB := B1.out
  clear H0 H1 B1 HO HC k0 k1 k2 HN hat ho hg1
  go_wp2
  refine bodyPost_ret (v := .agg #[.int .i64 wd, .int .i64 hg, .slice (some ⟨g, 0, none⟩) n cp]) (by simp [results, Try.results97, go_sem, x0, x1, x2]) rfl ⟨⟨g, cp, by rw [Hn.out], ?_⟩, ?_⟩
  · rw [Hn.out]
    exact own_set (own_set (own_set hO (by rintro a ⟨⟩; simp; omega) _) (by rintro a ⟨⟩; simp; omega) _) (by rintro a ⟨⟩; simp; omega) _
  · exact ((((B0.out.trans (hB.mono (by omega))).setCell (by simp) _).setCell (by simp) _).setCell (by simp) _)
end Go.Proofs.Ytbefcfdmaafghaa
