/- Sheets: the size counts, copies both ways, comparison of equal ones, the marks. -/
import Derived.Test.YtcpimcjmckljfaaSheet
namespace Go.Proofs.Ytcpimcjmckljfaa
open Go.RowKit
set_option maxHeartbeats 400000 in
theorem szFloat32S_yes (A : Option Addr) (n c : Nat) (left : Int) (w : World) (h1 : left ≤ 1048576) (h : (n : Int) ≤ left) :
    Calls Try.prog 56 #[.slice A n c, .int .i64 left] w fun e w' => e = .returned (.int .i64 (left - n)) ∧ w = w' := by
  go_enter Try.func56, Try.ntmps56
  go_wp2
  go_ret
  exact ⟨rfl, rfl⟩
set_option maxHeartbeats 400000 in
theorem szFloat32S_no (A : Option Addr) (n c : Nat) (left : Int) (w : World) (h0 : 0 ≤ left) (h1 : left ≤ 1048576) (hc : n ≤ 9223372036854775807) (h : left < (n : Int)) :
    Calls Try.prog 56 #[.slice A n c, .int .i64 left] w fun e w' => e = .returned (.int .i64 (-1)) ∧ w = w' := by
  go_enter Try.func56, Try.ntmps56
  go_wp2
  go_ret
  exact ⟨rfl, rfl⟩

set_option maxHeartbeats 400000 in
theorem szSheet_yes (wd hg : Int) (A : Option Addr) (n c : Nat) (left : Int) (w : World) (h1 : left ≤ 1048576) (h : (n : Int) ≤ left) :
    Calls Try.prog 24 #[.agg #[.int .i64 wd, .int .i64 hg, .slice A n c], .int .i64 left] w fun e w' => e = .returned (.int .i64 (left - n)) ∧ Below w.heap.size w w' := by
  go_enter Try.func24, Try.ntmps24
  go_wp2_with (go_at_call 56; refine (szFloat32S_yes A n c left _ h1 h).mono ?_; rintro e w' ⟨rfl, rfl⟩)
  go_ret
  exact ⟨rfl, (Below.refl _ _).alloc (Nat.le_refl _) _⟩
set_option maxHeartbeats 400000 in
theorem szSheet_no (wd hg : Int) (A : Option Addr) (n c : Nat) (left : Int) (w : World) (h0 : 0 ≤ left) (h1 : left ≤ 1048576) (hc : n ≤ 9223372036854775807) (h : left < (n : Int)) :
    Calls Try.prog 24 #[.agg #[.int .i64 wd, .int .i64 hg, .slice A n c], .int .i64 left] w fun e w' => e = .returned (.int .i64 (-1)) ∧ Below w.heap.size w w' := by
  go_enter Try.func24, Try.ntmps24
  go_wp2_with (go_at_call 56; refine (szFloat32S_no A n c left _ h0 h1 hc h).mono ?_; rintro e w' ⟨rfl, rfl⟩)
  go_ret
  exact ⟨rfl, (Below.refl _ _).alloc (Nat.le_refl _) _⟩

/-- e gives a field (wd, hg, bs) whose cells lie in a row of their own from block B on -/
def GivesSheet (B : Nat) (wd hg : Int) (bs : List Nat) (e : Ending) (w' : World) : Prop :=
  ∃ g c, e = .returned (.agg #[.int .i64 wd, .int .i64 hg, .slice (some ⟨g, 0, none⟩) bs.length c]) ∧ w'.ownsRow B 23 1 (.slice (some ⟨g, 0, none⟩) bs.length c) bs.length (bs.map (Value.float .f32))

set_option maxHeartbeats 1000000 in
theorem toSheet_any (wd hg : Int) (A : Option Addr) (n c : Nat) (bs : List Nat) (w : World) (hn : bs.length = n) (hc : n ≤ 17592186044416) (hr : Rd w w.heap.size A (bs.map (Value.float .f32))) :
    Calls Try.prog 26 #[.agg #[.int .i64 wd, .int .i64 hg, .slice A n c]] w fun e w' => GivesSheet w.heap.size wd hg bs e w' ∧ Below w.heap.size w w' := by
  have Hn := Lib.hid hn; clear hn
  have Hr := Lib.hid hr; clear hr
  go_enter Try.func26, Try.ntmps26
  go_wp2_with fail
  refine (toFloat32S_any A n c bs _ Hn.out hc ?_).mono ?_
  · exact Hr.out.next ((((Below.refl _ _).alloc (Nat.le_refl _) _).alloc (by simp) _).alloc (by simp; omega) _)
  rintro e w1 ⟨rfl, hown, hb⟩
  obtain ⟨hcell, hfr⟩ := bcell hb
  have HO := Lib.hid hown; clear hown
  have HB := Lib.hid hb; clear hb
  have hz : w.heap.size + 2 < w1.heap.size := by have := HB.out.size; simp at this; omega
  go_wp2
  obtain ⟨hcell, hfr⟩ := bcell HB.out
  refine bodyPost_ret (v := .agg #[.int .i64 wd, .int .i64 hg, .slice (some ⟨w.heap.size + 1 + 1 + 1, 0, none⟩) n n]) (by simp [results, Try.results26, go_sem, hcell]) rfl ⟨⟨w.heap.size + 1 + 1 + 1, n, ?_, ?_⟩, ?_⟩
  · rw [Hn.out]
  · rw [Hn.out]
    have h1 := own_base (b' := w.heap.size) HO.out (by simp; omega)
    simp only [World.size_alloc] at h1
    exact own_set (own_set (own_set (own_set h1 (by rintro a ⟨⟩; simp <;> omega) _) (by rintro a ⟨⟩; simp <;> omega) _) (by rintro a ⟨⟩; simp <;> omega) _) (by rintro a ⟨⟩; simp <;> omega) _
  · exact ((((((((Below.refl _ _).alloc (Nat.le_refl _) _).alloc (by simp) _).alloc (by simp; omega) _).trans (HB.out.mono (by simp; omega))).setCell (by simp; omega) _).setCell (by simp) _).setCell (by simp) _).setCell (by simp) _

set_option maxHeartbeats 1000000 in
/-- eqSheet of two fields with the same sides and cells -/
theorem eqSheet_same (wd hg : Int) (A A' : Option Addr) (n c n' c' : Nat) (bs : List Nat) (w : World) (hn : bs.length = n) (hn' : bs.length = n') (hc : bs.length ≤ 17592186044416)
    (hr : Rd w w.heap.size A (bs.map (Value.float .f32))) (hr' : Rd w w.heap.size A' (bs.map (Value.float .f32))) :
    Calls Try.prog 28 #[.agg #[.int .i64 wd, .int .i64 hg, .slice A n c], .agg #[.int .i64 wd, .int .i64 hg, .slice A' n' c']] w fun e w' => e = .returned (.bool true) ∧ Below w.heap.size w w' := by
  subst hn; subst hn'
  have Hr := Lib.hid hr; clear hr
  have Hr' := Lib.hid hr'; clear hr'
  go_enter Try.func28, Try.ntmps28
  go_wp2_with fail
  refine (eqFloat32S_same A A' _ c _ c' bs _ rfl rfl (by omega) ?_ ?_).mono ?_
  · exact Hr.out.next (((Below.refl _ _).alloc (Nat.le_refl _) _).alloc (by simp) _)
  · exact Hr'.out.next (((Below.refl _ _).alloc (Nat.le_refl _) _).alloc (by simp) _)
  rintro e w1 ⟨rfl, hb⟩
  have HB := Lib.hid (bthen (((Below.refl _ _).alloc (Nat.le_refl _) _).alloc (by simp) _) hb)
  clear hb
  go_wp2
  go_ret
  exact ⟨rfl, HB.out⟩
set_option maxHeartbeats 400000 in
theorem markSheet_any (wd hg : Int) (A : Option Addr) (n c k B : Nat) (xs : List Value) (w : World) (_hB : B ≤ w.heap.size) (hk : k + n ≤ 1099511627776) (ho : w.ownsRow B 23 1 (.slice A n c) n xs) :
    Calls Try.prog 29 #[.agg #[.int .i64 wd, .int .i64 hg, .slice A n c], .int .i64 k] w fun e w' => e = .returned (.int .i64 ((k + n : Nat) : Int)) ∧ w'.ownsRow B 23 1 (.slice A n c) n ((List.range n).map (mkF k)) ∧ w.grownBy w' (Value.slice A n c).ownBlock := by
  have HO := Lib.hid (ho.alloc (.cells #[.int .i64 wd, .int .i64 hg, .slice A n c] 41)); clear ho
  go_enter Try.func29, Try.ntmps29
  go_wp2_with fail
  refine (markFloat32S_any A n c k B xs _ hk HO.out).mono ?_
  rintro e w1 ⟨rfl, ho1, hg1⟩
  have H1 := Lib.hid ho1; clear ho1
  have HG := Lib.hid (World.grownBy.trans' (World.grownBy_alloc w _ _) hg1); clear hg1
  go_wp2
  go_ret
  exact ⟨rfl, H1.out, HG.out⟩
set_option maxHeartbeats 400000 in
theorem heldSheet_any (wd hg : Int) (A : Option Addr) (n c k : Nat) (w : World) (hk : k + n ≤ 1099511627776) (hr : Rd w w.heap.size A ((List.range n).map (mkF k))) :
    Calls Try.prog 30 #[.agg #[.int .i64 wd, .int .i64 hg, .slice A n c], .int .i64 k] w fun e w' => e = .returned (.int .i64 ((k + n : Nat) : Int)) ∧ Below w.heap.size w w' := by
  have HR := Lib.hid (hr.next (below_new w (.cells #[.int .i64 wd, .int .i64 hg, .slice A n c] 41))); clear hr
  go_enter Try.func30, Try.ntmps30
  go_wp2_with fail
  refine (heldFloat32S_any A n c k _ hk HR.out).mono ?_
  rintro e w1 ⟨rfl, rfl⟩
  go_wp2
  go_ret
  exact ⟨rfl, below_new _ _⟩
theorem cloneF_any' (A : Option Addr) (n c : Nat) (bs : List Nat) (w : World) (hn : bs.length = n) (h0 : 0 < n) (hc : n ≤ 1048576) (hr : Rd w w.heap.size A (bs.map (Value.float .f32))) :
    Calls Try.prog 80 #[.slice A n c] w fun e w' => (∃ g cp, e = .returned (.slice (some ⟨g, 0, none⟩) n cp) ∧ w'.ownsRow w.heap.size 23 1 (.slice (some ⟨g, 0, none⟩) n cp) n (bs.map (Value.float .f32))) ∧ Below w.heap.size w w' := by
  obtain ⟨ad, rfl, _, _⟩ := hr.some (by rw [List.length_map]; omega)
  exact cloneF_any ad n c bs w hn hc hr
set_option maxHeartbeats 2000000 in
set_option maxRecDepth 100000 in
theorem copySheet_any (wd hg : Int) (A : Option Addr) (n c : Nat) (bs : List Nat) (w : World) (hn : bs.length = n) (h0 : 0 < n) (hc : n ≤ 1048576) (hr : Rd w w.heap.size A (bs.map (Value.float .f32))) :
    Calls Try.prog 64 #[.agg #[.int .i64 wd, .int .i64 hg, .slice A n c]] w fun e w' => GivesSheet w.heap.size wd hg bs e w' ∧ Below w.heap.size w w' := by
  have Hr := Lib.hid hr; clear hr
  obtain ⟨W0, hW0⟩ : ∃ W0, W0 = (w.alloc (.cells #[.int .i64 wd, .int .i64 hg, .slice A n c] 41)).alloc (.cells #[.int .i64 0, .int .i64 0, .slice none 0 0] 41) := ⟨_, rfl⟩
  have B0 : Hid (Below w.heap.size w W0) := Lib.hid (by rw [hW0]; exact bthen (below_new w _) (below_new _ _))
  have z0 : W0.heap.size = w.heap.size + 2 := by rw [hW0]; simp
  have K0 : W0.cell? ⟨w.heap.size, 0, none⟩ = some (.int .i64 wd) ∧ W0.cell? ⟨w.heap.size, 1, none⟩ = some (.int .i64 hg) ∧ W0.cell? ⟨w.heap.size, 2, none⟩ = some (.slice A n c) := by rw [hW0]; exact ⟨by simp [go_sem], by simp [go_sem], by simp [go_sem]⟩
  have X0 : Hid (Open3 W0 (w.heap.size + 1)) := Lib.hid (by rw [hW0]; exact ⟨⟨by simp [go_sem], by simp [go_sem], by simp [go_sem]⟩, by simp [go_sem], by simp [go_sem], by simp [go_sem]⟩)
  have Z0 := Lib.hid z0
  have HW := Lib.hid hW0
  have R0 := Lib.hid ((Hr.out.below B0.out).more B0.out.size)
  have C := cloneF_any' A n c bs W0.drew hn h0 hc (Lib.hid R0.out).out
  have HC := Lib.hid C
  have Hn := Lib.hid hn
  clear C hn
  go_enter Try.func64, Try.ntmps64
  go_wp2_with fail
  rw [← hW0]
  clear hW0 z0
  obtain ⟨k0, k1, k2⟩ := K0
  have H0 := Lib.hid (show W0.cell? ⟨w.heap.size, 0, none⟩ = some (.int .i64 wd) ∧ W0.cell? ⟨w.heap.size, 1, none⟩ = some (.int .i64 hg) ∧ W0.cell? ⟨w.heap.size, 2, none⟩ = some (.slice A n c) from ⟨k0, k1, k2⟩)
  go_region_held3 (fun w' => w'.cell? ⟨w.heap.size, 0, none⟩ = some (.int .i64 wd) ∧ w'.cell? ⟨w.heap.size, 1, none⟩ = some (.int .i64 hg) ∧ w'.cell? ⟨w.heap.size, 2, none⟩ = some (.slice A n c)) (first | exact H0.out | exact H1.out | exact fbox3 ((((Below.refl (w.heap.size + 1) _).setCell (Nat.le_refl _) _).setCell (Nat.le_refl _) _).setCell (Nat.le_refl _) _) (Nat.lt_succ_self _) H1.out)
    ((go_at_call 80; go_must (refine HC.out.mono ?_); rintro e w1 ⟨⟨g, cp, rfl, ho⟩, hbd⟩; have hb1 := undrew hbd; have B1 := Lib.hid hb1; have HO := Lib.hid ho; have H1 := Lib.hid (fbox3 hb1 (show w.heap.size < W0.heap.size by rw [Z0.out]; omega) H0.out); obtain ⟨⟨x0, x1, x2⟩, y0, y1, y2⟩ := X0.out.below hb1 (show w.heap.size + 1 < W0.heap.size by rw [Z0.out]; omega)))
  have hlt : W0.heap.size ≤ g := (HO.out.lt g rfl).1
  have hz0 := Z0.out
  have hO := HO.out
  have hB := B1.out
  clear H0 H1 B1 HO HC k0 k1 k2
  go_wp2
  refine bodyPost_ret (v := .agg #[.int .i64 wd, .int .i64 hg, .slice (some ⟨g, 0, none⟩) n cp]) (by simp [results, Try.results64, go_sem, x0, x1, x2]) rfl ⟨⟨g, cp, by rw [Hn.out], ?_⟩, ?_⟩
  · rw [Hn.out]
    exact own_set (own_set (own_set (own_base hO (by show w.heap.size ≤ W0.heap.size; omega)) (by rintro a ⟨⟩; simp; omega) _) (by rintro a ⟨⟩; simp; omega) _) (by rintro a ⟨⟩; simp; omega) _
  · exact ((((B0.out.trans (hB.mono (by omega))).setCell (by simp) _).setCell (by simp) _).setCell (by simp) _)

set_option maxHeartbeats 2000000 in
set_option maxRecDepth 100000 in
theorem l05Own_any (wd hg : Int) (A : Option Addr) (n c b : Nat) (bs : List Nat) (w : World) (hn : bs.length = n) (h0 : 0 < n) (hc : n ≤ 1048576) (hr : Rd w w.heap.size A (bs.map (Value.float .f32))) (hx : FBox w b wd hg (.slice A n c)) (hb : b < w.heap.size) :
    Calls Try.prog 59 #[.pointer (some ⟨b, 0, none⟩)] w fun e w' => GivesSheet w.heap.size wd hg bs e w' ∧ Below w.heap.size w w' := by
  obtain ⟨i0, hi, hz0, hz1, hz2⟩ := info_parts Try.info23
  obtain ⟨W0, hW0⟩ : ∃ W0, W0 = w.alloc (.cells #[.int .i64 0, .int .i64 0, .slice none 0 0] 41) := ⟨_, rfl⟩
  have B0 : Hid (Below w.heap.size w W0) := Lib.hid (by rw [hW0]; exact below_new w _)
  have z0 : W0.heap.size = w.heap.size + 1 := by rw [hW0]; simp
  have K0 : W0.cell? ⟨b, 0, none⟩ = some (.int .i64 wd) ∧ W0.cell? ⟨b, 1, none⟩ = some (.int .i64 hg) ∧ W0.cell? ⟨b, 2, none⟩ = some (.slice A n c) := fbox3 B0.out hb hx
  have X0 : Hid (Open3 W0 w.heap.size) := Lib.hid (by rw [hW0]; exact ⟨⟨by simp [go_sem], by simp [go_sem], by simp [go_sem]⟩, by simp [go_sem], by simp [go_sem], by simp [go_sem]⟩)
  have Z0 := Lib.hid z0
  obtain ⟨ad, rfl, had, hcl⟩ := hr.some (by rw [List.length_map]; omega)
  have HC : Hid (∀ j u, (bs.map (Value.float .f32))[j]? = some u → (W0.alloc (.cells #[] 23)).drew.cell? (ad.add j) = some u) := Lib.hid fun j u hu => by
    show (W0.alloc (.cells #[] 23)).cell? (ad.add j) = _
    rw [World.cell?_alloc_lt _ _ _ (by rw [add_block]; show ad.block < W0.heap.size; omega)]
    exact (B0.out.cell (p := ad.add j) (by rw [add_block]; exact had)).trans (hcl j u hu)
  have HN : Hid ((W0.alloc (.cells #[] 23)).drew.ownsRow w.heap.size 23 1 (.slice (some ⟨W0.heap.size, 0, none⟩) 0 0) 0 []) := Lib.hid (World.ownsRow_made W0.drew #[] 0 (by show w.heap.size ≤ W0.heap.size; omega) (Nat.zero_le _) rfl)
  have HBW : Hid (b < W0.heap.size) := Lib.hid (by omega)
  have HZZ : Hid (w.heap.size ≤ (W0.alloc (.cells #[] 23)).drew.heap.size) := Lib.hid (by show w.heap.size ≤ (W0.alloc (.cells #[] 23)).heap.size; rw [World.size_alloc]; omega)
  have HL : Hid ((bs.map (Value.float .f32)).length = n * 1) := Lib.hid (by simp [hn])
  have Hn := Lib.hid hn
  clear hn hx hr hcl
  go_enter Try.func59, Try.ntmps59
  go_wp2_with fail
  rw [← hW0]
  clear hW0 z0
  obtain ⟨k0, k1, k2⟩ := K0
  have H0 := Lib.hid (show W0.cell? ⟨b, 0, none⟩ = some (.int .i64 wd) ∧ W0.cell? ⟨b, 1, none⟩ = some (.int .i64 hg) ∧ W0.cell? ⟨b, 2, none⟩ = some (.slice (some ad) n c) from ⟨k0, k1, k2⟩)
  go_region_held_law (fun w' => w'.cell? ⟨b, 0, none⟩ = some (.int .i64 wd) ∧ w'.cell? ⟨b, 1, none⟩ = some (.int .i64 hg) ∧ w'.cell? ⟨b, 2, none⟩ = some (.slice (some ad) n c)) (first | exact H0.out | exact fbox3 (Below.drew ((Below.refl W0.heap.size W0).alloc (Nat.le_refl _) _)) HBW.out H0.out | exact H1.out | exact fbox3 ((((Below.refl w.heap.size _).setCell (Nat.le_refl _) _).setCell (Nat.le_refl _) _).setCell (Nat.le_refl _) _) hb H1.out)
    ((refine step_append_lies _ rfl (.tmp 11) (.tmp 15) 31 rfl w.heap.size 23 i0 (.float .f32 0) 1 4 Try.underlying31 hi hz0 hz1 hz2 rfl (by decide) _ _ _ (by simp [Act.eval]) HN.out ad n c (bs.map (Value.float .f32)) (by simp [Act.eval]) HL.out HC.out (one_floats _) h0 (by unfold maxLen; omega) (by omega) HZZ.out _ rfl ?_; intro g cp w1 ho hg1 hat hltg; have hbd : Below W0.heap.size W0 w1 := (Below.drew (below_new W0 (.cells #[] 23))).grown hg1 (by simp) (fun k hk => by simp [Value.ownBlock] at hk; omega); have hb1 := hbd; have B1 := Lib.hid hb1; have HO := Lib.hid ho; have H1 := Lib.hid (fbox3 hb1 (show b < W0.heap.size by rw [Z0.out]; omega) H0.out); obtain ⟨⟨x0, x1, x2⟩, y0, y1, y2⟩ := X0.out.below hb1 (show w.heap.size < W0.heap.size by rw [Z0.out]; omega)))
  have hlt : W0.heap.size ≤ g := by
    rcases hat with h | h
    · have : W0.heap.size = g := by simpa [Value.ownBlock] using h
      omega
    · simp at h; omega
  have hz0 := Z0.out
  have hO : w1.ownsRow w.heap.size 23 1 (.slice (some ⟨g, 0, none⟩) n cp) n (bs.map (Value.float .f32)) := by simpa using HO.out
  have hB := B1.out
  clear H0 H1 B1 HO HC k0 k1 k2 HN hat ho hg1
  go_wp2
  refine bodyPost_ret (v := .agg #[.int .i64 wd, .int .i64 hg, .slice (some ⟨g, 0, none⟩) n cp]) (by simp [results, Try.results59, go_sem, x0, x1, x2]) rfl ⟨⟨g, cp, by rw [Hn.out], ?_⟩, ?_⟩
  · rw [Hn.out]
    exact own_set (own_set (own_set hO (by rintro a ⟨⟩; simp; omega) _) (by rintro a ⟨⟩; simp; omega) _) (by rintro a ⟨⟩; simp; omega) _
  · exact ((((B0.out.trans (hB.mono (by omega))).setCell (by simp) _).setCell (by simp) _).setCell (by simp) _)
set_option maxHeartbeats 1000000 in
theorem sides_any (wd hg i : Int) (v : Value) (w : World) (h1 : 1 ≤ wd) (h2 : wd ≤ 17) (h3 : 1 ≤ hg) (h4 : hg ≤ 17) (h5 : 0 ≤ i) (h6 : i < wd * hg) :
    Calls Try.prog 65 #[.agg #[.int .i64 wd, .int .i64 hg, v], .int .i64 i] w fun e w' => (∃ u, e = .returned u ∧ w'.ownsRow w.heap.size 2 1 u (nb wd hg i).length ((nb wd hg i).map (Value.int .i64))) ∧ Below w.heap.size w w' := by
  have HC := Lib.hid (neighbours_any wd hg i (w.alloc (.cells #[.int .i64 wd, .int .i64 hg, v] 41)) h1 h2 h3 h4 h5 h6)
  clear h1 h2 h3 h4 h5 h6
  go_enter Try.func65, Try.ntmps65
  go_wp2_with fail
  refine HC.out.mono ?_
  rintro e w1 ⟨⟨u, rfl, ho⟩, hb⟩
  have HO := Lib.hid (own_base (b' := w.heap.size) ho (by simp))
  have HB := Lib.hid (bthen (below_new w _) hb)
  clear ho hb
  go_wp2
  go_ret
  exact ⟨⟨_, rfl, HO.out⟩, HB.out⟩
end Go.Proofs.Ytcpimcjmckljfaa
