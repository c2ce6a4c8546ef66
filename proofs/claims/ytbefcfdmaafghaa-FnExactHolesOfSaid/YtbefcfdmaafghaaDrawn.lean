/- DrawnField, both ways. -/
import Derived.Test.YtbefcfdmaafghaaDraw
namespace Go.Proofs.Ytbefcfdmaafghaa
open Go.RowKit
/-- block b is just these cells -/
def Blk (w : World) (b : Nat) (t : TypeId) (cs : Array Value) : Prop := w.heap[b]? = some (.cells cs t (0, 0))
section
variable {w w' : World} {b : Nat} {t : TypeId} {cs : Array Value}
theorem Blk.lt (h : Blk w b t cs) : b < w.heap.size := (Array.getElem?_eq_some_iff.1 h).1
theorem Blk.cell (h : Blk w b t cs) (i : Nat) : w.cell? ⟨b, i, none⟩ = cs[i]? := cell_of_row w b i cs t (0, 0) h
theorem Blk.frozen (h : Blk w b t cs) (i : Nat) : w.frozen? ⟨b, i, none⟩ = false := frozen_of_row w b i cs t h
theorem Blk.new (w : World) (t : TypeId) (cs : Array Value) : Blk (w.alloc (.cells cs t)) w.heap.size t cs := heap_alloc_new w _
theorem Blk.below {B : Nat} (h : Blk w b t cs) (hb : Below B w w') (hg : b < B) : Blk w' b t cs := (hb.block b hg).trans h
theorem Blk.next (h : Blk w b t cs) (hb : Below w.heap.size w w') : Blk w' b t cs := h.below hb h.lt
theorem Blk.drewN (h : Blk w b t cs) (n : Nat) : Blk (w.drewN n) b t cs := h
theorem Blk.grown {r : Option Nat} (h : Blk w b t cs) (hg : w.grownBy w' r) (hne : some b ≠ r) : Blk w' b t cs := (hg.block b h.lt hne).trans h
theorem Blk.far (h : Blk w b t cs) {p : Addr} (hp : b ≠ p.block) (u : Value) : Blk (w.setCell p u) b t cs := (Below.heap_setCell w p u b hp).trans h
theorem Blk.set_ (h : Blk w b t cs) (i : Nat) (u : Value) : Blk (w.setCell ⟨b, i, none⟩ u) b t (cs.setIfInBounds i u) := heap_setCell_same w b i cs t u h
end
/-- e gives a field, a number and a bool -/
def GivesFIB (B : Nat) (wd hg : Int) (bs : List Bool) (z : Int) (ok : Bool) (e : Ending) (w' : World) : Prop :=
  ∃ A c, e = .returned (.tuple #[.agg #[.int .i64 wd, .int .i64 hg, .slice A bs.length c], .int .i64 z, .bool ok]) ∧ w'.ownsRow B 4 1 (.slice A bs.length c) bs.length (bs.map Value.bool)
/-- the three ask of a drawn field -/
def drawOk (wd hg : Int) (x : Nat) (s : Int) : Bool := sidesB wd hg && (shareB x && inB s 0 2147483647)

set_option maxHeartbeats 2000000 in
set_option maxRecDepth 100000 in
theorem drawnField_yes (wd hg : Int) (n x : Nat) (s : Int) (r : Nat) (w : World) (hs : sidesB wd hg = true) (hn : (n : Int) = wd * hg) (hx : shareB x = true) (h0 : 0 ≤ s) (h1 : s ≤ 2147483647) (hr : floatBits .mul .f32 x 1191182336 = some r) :
    Calls Try.prog 37 #[.int .i64 wd, .int .i64 hg, .float .f32 x, .int .i64 s] w fun e w' => GivesFIB w.heap.size wd hg (dcells r s n) (dseed s n) true e w' ∧ Below w.heap.size w w' := by
  have hs' := sidesB_iff.1 hs
  obtain ⟨p1, p2⟩ := prod_bd hs'.1.1 hs'.1.2 hs'.2.1 hs'.2.2
  have hin := inB_t h0 h1
  have hmul := fun (t : TypeId) (W : World) => run_float_arith (P := Try.prog) W .mul t .f32 x 1191182336 r hr
  have hn256 : n ≤ 256 := by omega
  have HE := Lib.hid (emptyField_yes wd hg n (w.alloc (.cells #[.int .i64 0, .int .i64 0, .slice none 0 0] 27)) hs hn)
  clear hr hs' hn
  go_enter Try.func37, Try.ntmps37
  go_wp2_with fail
  refine HE.out.mono ?_
  rintro e w1 ⟨⟨A, c, rfl, ho⟩, hb⟩
  rw [List.length_replicate] at ho ⊢
  have z1 : w.heap.size < w1.heap.size := by have := hb.size; simp at this; omega
  obtain ⟨hcell, hfr⟩ := bcell hb
  have hr1 : Blk w1 w.heap.size 27 #[.int .i64 0, .int .i64 0, .slice none 0 0] := (Blk.new w 27 _).next hb
  have R1 := Lib.hid (hr1.next (below_new w1 (.cells #[.int .i64 wd, .int .i64 hg, .slice A n c] 27)))
  have X1 := Lib.hid (Blk.new w1 27 #[.int .i64 wd, .int .i64 hg, .slice A n c])
  have B1 := Lib.hid (bthen (bthen (below_new w _) hb) (below_new w1 (.cells #[.int .i64 wd, .int .i64 hg, .slice A n c] 27)))
  have o9 : (w1.alloc (.cells #[.int .i64 wd, .int .i64 hg, .slice A n c] 27)).ownsRow (w.heap.size + 1) 4 1 (.slice A n c) n ((List.replicate n false).map Value.bool) := by
    have h9 := ho.alloc (.cells #[.int .i64 wd, .int .i64 hg, .slice A n c] 27)
    simpa using h9
  have O1 := Lib.hid o9
  clear o9
  have zA : Hid (∀ a, A = some a → a.block < w1.heap.size) := by
    rintro a rfl
    exact (ho.lt _ rfl).2
  clear hb ho HE hr1
  go_wp2_with (first | (go_at_call 86; refine (isShare_any _ _).mono ?_; rintro e w' ⟨rfl, rfl⟩) | (go_at_call 87; refine (isSeed_any _ _).mono ?_; rintro e w' ⟨rfl, rfl⟩))
  go_loopw [3, 38] (fun sd i wr => ∃ k : Nat, k ≤ n ∧ i = .int .i64 k ∧ sd = .int .i64 (dseed s k) ∧ Blk wr w.heap.size 27 #[.int .i64 0, .int .i64 0, .slice none 0 0] ∧ Blk wr w1.heap.size 27 #[.int .i64 wd, .int .i64 hg, .slice A n c] ∧
      wr.ownsRow (w.heap.size + 1) 4 1 (.slice A n c) n ((List.range k).map (fun i => Value.bool (dcell r (dseed s i))) ++ ((List.replicate n false).map Value.bool).drop k) ∧ Below w.heap.size w wr) (fun _ i _ => n - (intOf i).toNat)
  case atStart => exact ⟨0, Nat.zero_le _, rfl, rfl, R1.out, X1.out, by simpa using O1.out, B1.out⟩
  case round =>
    obtain ⟨k, hk, rfl, rfl, hR, hX, hO, hB⟩ := hrel
    clear R1 X1 O1 B1
    have HR := Lib.hid hR; have HX := Lib.hid hX; have HO := Lib.hid hO; have HB := Lib.hid hB
    have x0 := hX.cell 0; have x1 := hX.cell 1; have x2 := hX.cell 2
    simp only [List.getElem?_toArray, List.getElem?_cons_zero, List.getElem?_cons_succ] at x0 x1 x2
    obtain ⟨ds0, ds1⟩ := dseed_bd h0 h1 k
    clear hR hX hO hB
    by_cases hlt : k < n
    · obtain ⟨g, rfl⟩ : ∃ g, A = some ⟨g, 0, none⟩ := by
        rcases HO.out.2 with ⟨hv, hn0⟩ | ⟨g, cap, cur, hv, _⟩
        · omega
        · exact ⟨g, by injection hv⟩
      go_wp2_with fail
      refine (drawBelow_any (dseed s k) 32768 _ ds0 ds1 (by omega) (by omega)).mono ?_
      rintro e wd1 ⟨rfl, m, rfl⟩
      have hc : (wr.drewN m).cell? ⟨g, k, none⟩ = some (.bool false) := by
        show wr.cell? ⟨g, k, none⟩ = _
        rw [HO.out.cellAt k (by omega), List.getElem?_append_right (by simp)]
        simp only [List.length_map, List.length_range, Nat.sub_self, List.map_replicate, List.drop_replicate]
        rw [List.getElem?_replicate, if_pos (by omega)]
      have hf : (wr.drewN m).frozen? ⟨g, k, none⟩ = false := HO.out.frozenAt k
      have hgl := zA.out _ rfl
      have hbg := (HO.out.lt g rfl).1
      have hs := (HO.out.stored k (.bool (dcell r (dseed s k)))).1
      rw [fillF_step (fun i => Value.bool (dcell r (dseed s i))) _ k (by simpa using hlt)] at hs
      have HS := Lib.hid hs
      clear hs
      go_wp2
      go_roundw
      case rel =>
        refine ⟨k + 1, by omega, by go_num, rfl, ?_, ?_, ?_, ?_⟩
        · exact (HR.out.drewN m).far (by simp; omega) _
        · exact (HX.out.drewN m).far (by simp at hgl ⊢; omega) _
        · exact HS.out
        · exact (below_drewN HB.out m).setCell (by simp; omega) _
      case measure => simp [intOf]; omega
    · have hke : k = n := by omega
      subst hke
      have r0 := HR.out.cell 0; have r1 := HR.out.cell 1; have r2 := HR.out.cell 2
      have f0 := HR.out.frozen 0; have f1 := HR.out.frozen 1; have f2 := HR.out.frozen 2
      simp only [List.getElem?_toArray, List.getElem?_cons_zero, List.getElem?_cons_succ] at r0 r1 r2
      go_wp2
      refine bodyPost_ret (v := .tuple #[.agg #[.int .i64 wd, .int .i64 hg, .slice A k c], .int .i64 (dseed s k), .bool true]) (by simp [results, Try.results37, go_sem, r0, r1, r2]) rfl ⟨⟨A, c, by rw [dcells_len], ?_⟩, ?_⟩
      · rw [dcells_len]
        have h9 := own_base (b' := w.heap.size) HO.out (by omega)
        rw [List.drop_eq_nil_of_le (by simp), List.append_nil] at h9
        have h8 : (dcells r s k).map Value.bool = (List.range k).map (fun i => Value.bool (dcell r (dseed s i))) := by simp [dcells]
        rw [h8]
        have hne : ∀ a, A = some a → a.block ≠ w.heap.size := by
          rintro a rfl
          have := (HO.out.lt _ rfl).1
          omega
        exact own_set (own_set (own_set h9 (fun a ha => by simpa using hne a ha) _) (fun a ha => by simpa using hne a ha) _) (fun a ha => by simpa using hne a ha) _
      · exact ((HB.out.setCell (by simp) _).setCell (by simp) _).setCell (by simp) _

theorem zero_fib {w w' : World} : GivesFIB w.heap.size 0 0 [] 0 false (.returned (.tuple #[.agg #[.int .i64 0, .int .i64 0, .slice none 0 0], .int .i64 0, .bool false])) w' := ⟨none, 0, rfl, World.ownsRow_nil _ _ _ _⟩
set_option maxHeartbeats 2000000 in
set_option maxRecDepth 100000 in
theorem drawnField_no (wd hg : Int) (x : Nat) (s : Int) (w : World) (h : ¬ drawOk wd hg x s = true) :
    Calls Try.prog 37 #[.int .i64 wd, .int .i64 hg, .float .f32 x, .int .i64 s] w fun e w' => GivesFIB w.heap.size 0 0 [] 0 false e w' ∧ Below w.heap.size w w' := by
  by_cases hs : sidesB wd hg = true
  · have hs' := sidesB_iff.1 hs
    obtain ⟨p1, p2⟩ := prod_bd hs'.1.1 hs'.1.2 hs'.2.1 hs'.2.2
    have hn : (((wd * hg).toNat : Nat) : Int) = wd * hg := by omega
    obtain ⟨n, hne⟩ : ∃ n, n = (wd * hg).toNat := ⟨_, rfl⟩
    rw [← hne] at hn
    have HE := Lib.hid (emptyField_yes wd hg n (w.alloc (.cells #[.int .i64 0, .int .i64 0, .slice none 0 0] 27)) hs hn)
    have hcase : shareB x = false ∨ (shareB x = true ∧ inB s 0 2147483647 = false) := by
      unfold drawOk at h
      cases h1 : shareB x <;> cases h2 : inB s 0 2147483647 <;> simp_all
    clear h hs hs' hn hne
    rcases hcase with hx | ⟨hx, hq⟩
    all_goals
      go_enter Try.func37, Try.ntmps37
      go_wp2_with fail
      refine HE.out.mono ?_
      rintro e w1 ⟨⟨A, c, rfl, ho⟩, hb⟩
      have z1 : w.heap.size < w1.heap.size := by have := hb.size; simp at this; omega
      have hr1 : Blk w1 w.heap.size 27 #[.int .i64 0, .int .i64 0, .slice none 0 0] := (Blk.new w 27 _).next hb
      have r0 := hr1.cell 0; have r1 := hr1.cell 1; have r2 := hr1.cell 2
      have f0 := hr1.frozen 0; have f1 := hr1.frozen 1; have f2 := hr1.frozen 2
      simp only [List.getElem?_toArray, List.getElem?_cons_zero, List.getElem?_cons_succ] at r0 r1 r2
      have B1 := Lib.hid (bthen (below_new w _) hb)
      clear hb ho hr1 HE
      go_wp2_with (first | (go_at_call 86; refine (isShare_any _ _).mono ?_; rintro e w' ⟨rfl, rfl⟩) | (go_at_call 87; refine (isSeed_any _ _).mono ?_; rintro e w' ⟨rfl, rfl⟩))
      refine bodyPost_ret (v := .tuple #[.agg #[.int .i64 0, .int .i64 0, .slice none 0 0], .int .i64 0, .bool false]) (by simp [results, Try.results37, go_sem, r0, r1, r2, z1]) rfl ⟨zero_fib, ?_⟩
      repeat (first | exact B1.out | (refine Below.setCell ?_ (by simp) _) | (refine Below.alloc ?_ (by have := B1.out.size; simp <;> omega) _))
  · have HE := Lib.hid (emptyField_no wd hg (w.alloc (.cells #[.int .i64 0, .int .i64 0, .slice none 0 0] 27)) hs)
    clear h hs
    go_enter Try.func37, Try.ntmps37
    go_wp2_with fail
    refine HE.out.mono ?_
    rintro e w1 ⟨⟨A, c, rfl, ho⟩, hb⟩
    have z1 : w.heap.size < w1.heap.size := by have := hb.size; simp at this; omega
    have hr1 : Blk w1 w.heap.size 27 #[.int .i64 0, .int .i64 0, .slice none 0 0] := (Blk.new w 27 _).next hb
    have r0 := hr1.cell 0; have r1 := hr1.cell 1; have r2 := hr1.cell 2
    have f0 := hr1.frozen 0; have f1 := hr1.frozen 1; have f2 := hr1.frozen 2
    simp only [List.getElem?_toArray, List.getElem?_cons_zero, List.getElem?_cons_succ] at r0 r1 r2
    have B1 := Lib.hid (bthen (below_new w _) hb)
    clear hb ho hr1 HE
    go_wp2
    refine bodyPost_ret (v := .tuple #[.agg #[.int .i64 0, .int .i64 0, .slice none 0 0], .int .i64 0, .bool false]) (by simp [results, Try.results37, go_sem, r0, r1, r2, z1]) rfl ⟨zero_fib, ?_⟩
    repeat (first | exact B1.out | (refine Below.setCell ?_ (by simp) _) | (refine Below.alloc ?_ (by have := B1.out.size; simp <;> omega) _))

theorem own_set' {w : World} {base : Nat} {e : TypeId} {size : Nat} {A : Option Addr} {n n' c : Nat} {xs : List Value} {p : Addr} (h : w.ownsRow base e size (.slice A n' c) n xs) (hp : ∀ a, A = some a → a.block ≠ p.block) (u : Value) : (w.setCell p u).ownsRow base e size (.slice A n' c) n xs := by
  refine ⟨h.1, ?_⟩
  rcases h.2 with hn | ⟨g, cap, cur, hv, hbg, hg, rest⟩
  · exact .inl hn
  · have hA : A = some ⟨g, 0, none⟩ := by injection hv
    refine .inr ⟨g, cap, cur, hv, hbg, ?_, rest⟩
    rw [Below.heap_setCell _ _ _ _ (hp _ hA)]
    exact hg
theorem own_shape' {w : World} {B : Nat} {e : TypeId} {v : Value} {n : Nat} {xs : List Value} (h : w.ownsRow B e 1 v n xs) : ∃ A c, v = .slice A n c ∧ Rd w w.heap.size A xs := by
  have h0 := h
  rcases h.2 with ⟨rfl, rfl⟩ | ⟨g, cap, cur, rfl, _⟩
  · exact ⟨none, 0, rfl, Rd.own h0⟩
  · exact ⟨_, cap, rfl, Rd.own h0⟩
theorem own_appB {w : World} {B : Nat} {v : Value} {l : List Bool} {b : Bool} (h : w.ownsRow B 4 1 v (l.length + 1) (l.map Value.bool ++ [.bool b])) :
    w.ownsRow B 4 1 v (l ++ [b]).length ((l ++ [b]).map Value.bool) := by
  simpa using h
set_option maxHeartbeats 2000000 in
set_option maxRecDepth 100000 in
theorem specDrawnField_no (wd hg : Int) (x : Nat) (s : Int) (w : World) (h : ¬ drawOk wd hg x s = true) :
    Calls Try.prog 36 #[.int .i64 wd, .int .i64 hg, .float .f32 x, .int .i64 s] w fun e w' => GivesFIB w.heap.size 0 0 [] 0 false e w' ∧ Below w.heap.size w w' := by
  have hcase : sidesB wd hg = false ∨ (sidesB wd hg = true ∧ shareB x = false) ∨ (sidesB wd hg = true ∧ shareB x = true ∧ inB s 0 2147483647 = false) := by
    unfold drawOk at h
    cases h0 : sidesB wd hg <;> cases h1 : shareB x <;> cases h2 : inB s 0 2147483647 <;> simp_all
  clear h
  rcases hcase with hs | ⟨hs, hx⟩ | ⟨hs, hx, hq⟩
  all_goals
    go_enter Try.func36, Try.ntmps36
    go_wp2_with (first | (go_at_call 80; refine (l07Sides_any _ _ _).mono ?_; rintro e w' ⟨rfl, rfl⟩) | (go_at_call 83; refine (l02Share_any _ _).mono ?_; rintro e w' ⟨rfl, rfl⟩) | (go_at_call 84; refine (l07Seed_any _ _).mono ?_; rintro e w' ⟨rfl, rfl⟩))
    refine bodyPost_ret (v := .tuple #[.agg #[.int .i64 0, .int .i64 0, .slice none 0 0], .int .i64 0, .bool false]) (by simp [results, Try.results36, go_sem]) rfl ⟨zero_fib, ?_⟩
    exact below_new _ _
set_option maxHeartbeats 4000000 in
set_option maxRecDepth 100000 in
theorem specDrawnField_yes (wd hg : Int) (n x : Nat) (s : Int) (r : Nat) (w : World) (hs : sidesB wd hg = true) (hn : (n : Int) = wd * hg) (hx : shareB x = true) (h0 : 0 ≤ s) (h1 : s ≤ 2147483647) (hr : floatBits .mul .f32 x 1191182336 = some r) :
    Calls Try.prog 36 #[.int .i64 wd, .int .i64 hg, .float .f32 x, .int .i64 s] w fun e w' => GivesFIB w.heap.size wd hg (dcells r s n) (dseed s n) true e w' ∧ Below w.heap.size w w' := by
  obtain ⟨i0, hi, hz0, hz1, hz2⟩ := info_parts Try.info4
  have hs' := sidesB_iff.1 hs
  obtain ⟨p1, p2⟩ := prod_bd hs'.1.1 hs'.1.2 hs'.2.1 hs'.2.2
  have hin := inB_t h0 h1
  have hmul := fun (t : TypeId) (W : World) => run_float_arith (P := Try.prog) W .mul t .f32 x 1191182336 r hr
  have hn256 : n ≤ 256 := by omega
  have Hn := Lib.hid hn
  clear hr hs' hn
  have n0 : Below w.heap.size w ((w.alloc (.cells #[.int .i64 0, .int .i64 0, .slice none 0 0] 27)).alloc (.cells #[.int .i64 wd, .int .i64 hg, .slice none 0 0] 27)) := bthen (below_new w _) (below_new _ _)
  have R0 : Blk ((w.alloc (.cells #[.int .i64 0, .int .i64 0, .slice none 0 0] 27)).alloc (.cells #[.int .i64 wd, .int .i64 hg, .slice none 0 0] 27)) w.heap.size 27 #[.int .i64 0, .int .i64 0, .slice none 0 0] := (Blk.new w 27 _).next (below_new _ _)
  have X0 : Blk ((w.alloc (.cells #[.int .i64 0, .int .i64 0, .slice none 0 0] 27)).alloc (.cells #[.int .i64 wd, .int .i64 hg, .slice none 0 0] 27)) (w.heap.size + 1) 27 #[.int .i64 wd, .int .i64 hg, .slice none 0 0] := by
    have h9 := Blk.new (w.alloc (.cells #[.int .i64 0, .int .i64 0, .slice none 0 0] 27)) 27 #[.int .i64 wd, .int .i64 hg, .slice none 0 0]
    simpa using h9
  have N0 := Lib.hid n0; have R1 := Lib.hid R0; have X1 := Lib.hid X0
  clear n0 R0 X0
  go_enter Try.func36, Try.ntmps36
  go_wp2_with (first | (go_at_call 80; refine (l07Sides_any _ _ _).mono ?_; rintro e w' ⟨rfl, rfl⟩) | (go_at_call 83; refine (l02Share_any _ _).mono ?_; rintro e w' ⟨rfl, rfl⟩) | (go_at_call 84; refine (l07Seed_any _ _).mono ?_; rintro e w' ⟨rfl, rfl⟩))
  go_loopw [3, 12] (fun sd i wr => ∃ (k : Nat) (v : Value), k ≤ n ∧ i = .int .i64 k ∧ sd = .int .i64 (dseed s k) ∧ Blk wr w.heap.size 27 #[.int .i64 0, .int .i64 0, .slice none 0 0] ∧ Blk wr (w.heap.size + 1) 27 #[.int .i64 wd, .int .i64 hg, v] ∧
      wr.ownsRow (w.heap.size + 2) 4 1 v (dcells r s k).length ((dcells r s k).map Value.bool) ∧ w.heap.size + 2 ≤ wr.heap.size ∧ Below w.heap.size w wr) (fun _ i _ => n - (intOf i).toNat)
  case atStart => exact ⟨0, .slice none 0 0, Nat.zero_le _, rfl, rfl, R1.out, X1.out, World.ownsRow_nil _ _ _ _, by simp, N0.out⟩
  case round =>
    obtain ⟨k, v, hk, rfl, rfl, hR, hX, hO, hz, hB⟩ := hrel
    clear R1 X1 N0
    have HR := Lib.hid hR; have HX := Lib.hid hX; have HO := Lib.hid hO; have HB := Lib.hid hB
    have x0 := hX.cell 0; have x1 := hX.cell 1; have x2 := hX.cell 2
    simp only [List.getElem?_toArray, List.getElem?_cons_zero, List.getElem?_cons_succ] at x0 x1 x2
    obtain ⟨ds0, ds1⟩ := dseed_bd h0 h1 k
    have hdl := dcells_len r s k
    have HDL := Lib.hid hdl
    clear hR hX hO hB hdl
    by_cases hlt : k < n
    · have hlt' : (k : Int) < wd * hg := by have := Hn.out; omega
      go_wp2_with fail
      refine (l07Draw_any (dseed s k) 32768 _ ds0 ds1 (by omega) (by omega)).mono ?_
      rintro e wd1 ⟨rfl, m, rfl⟩
      have hOm : (wr.drewN m).ownsRow (w.heap.size + 2) 4 1 v (dcells r s k).length ((dcells r s k).map Value.bool) := HO.out
      have HOm := Lib.hid hOm
      clear hOm
      go_wp2_with (at_builtin; refine wpList_append_own _ rfl (.tmp 47) (.tmp 53) 22 rfl (w.heap.size + 2) 4 i0 (.bool false) 1 1 Try.underlying22 hi hz0 hz1 hz2 rfl (by decide) _ _ _ rfl (HOm.out.alloc _) ⟨wr.heap.size, 0, none⟩ 1 1 [.bool (dcell r (dseed s k))] rfl rfl ?_ ?_ ?_ ?_ ?_ ?_)
      · intro j u hj
        match j, hj with
        | 0, hj =>
          simp at hj
          subst hj
          simp only [Addr.add]
          exact (Blk.new (wr.drewN m) 4 #[Value.bool (dcell r (dseed s k))]).cell 0
        | j + 1, hj => simp at hj
      · intro u hu; simp at hu; subst hu; rfl
      · unfold maxLen; have := HDL.out; omega
      · have := HDL.out; omega
      · simp; omega
      · intro v' w2 hown' hgrow _
        obtain ⟨A', c', rfl, _⟩ := own_shape' hown'
        have nb : ∀ b, b < w.heap.size + 2 → some b ≠ v.ownBlock := fun b hb he => by have := (HO.out.lt b he.symm).1; omega
        have X2 := ((HX.out.drewN m).next (below_new _ (.cells #[.bool (dcell r (dseed s k))] 4))).grown hgrow (nb _ (by omega))
        have R2 := ((HR.out.drewN m).next (below_new _ (.cells #[.bool (dcell r (dseed s k))] 4))).grown hgrow (nb _ (by omega))
        have B2 := Lib.hid ((below_drewN HB.out m).trans (((below_new (wr.drewN m) (.cells #[.bool (dcell r (dseed s k))] 4)).mono (show w.heap.size ≤ (wr.drewN m).heap.size from by show w.heap.size ≤ wr.heap.size; omega)).grown hgrow (by simp; omega) (fun q hq => by have := (HO.out.lt q hq).1; omega)))
        have O2 := Lib.hid (own_appB hown')
        rw [← dcells_succ] at O2
        have z2 : w.heap.size + 2 ≤ w2.heap.size := by have := hgrow.size; simp at this; omega
        have y0 := X2.cell 0; have y1 := X2.cell 1; have y2 := X2.cell 2
        have g2 := X2.frozen 2
        simp only [List.getElem?_toArray, List.getElem?_cons_zero, List.getElem?_cons_succ] at y0 y1 y2
        have HX2 := Lib.hid (X2.set_ 2 (.slice A' ((dcells r s k).length + 1) c'))
        have HR2 := Lib.hid (R2.far (p := ⟨w.heap.size + 1, 2, none⟩) (by simp) (.slice A' ((dcells r s k).length + 1) c'))
        have HO2 := Lib.hid (own_set' (p := ⟨w.heap.size + 1, 2, none⟩) O2.out (fun a ha => by have := (O2.out.lt a.block (by subst ha; rfl)).1; simp; omega) (.slice A' ((dcells r s k).length + 1) c'))
        have HB2 := Lib.hid (B2.out.setCell (p := ⟨w.heap.size + 1, 2, none⟩) (by simp) (.slice A' ((dcells r s k).length + 1) c'))
        clear hown' hgrow nb X2 R2 B2 O2
        go_wp2
        go_roundw
        case rel => exact ⟨k + 1, _, by omega, by go_num, rfl, HR2.out, HX2.out, HO2.out, by simpa using z2, HB2.out⟩
        case measure => simp [intOf]; omega
    · have hke : k = n := by omega
      subst hke
      have hge : ¬ ((k : Int) < wd * hg) := by have := Hn.out; omega
      obtain ⟨A, c, hv, _⟩ := own_shape' HO.out
      have HV := Lib.hid hv
      have r0 := HR.out.cell 0; have r1 := HR.out.cell 1; have r2 := HR.out.cell 2
      have f0 := HR.out.frozen 0; have f1 := HR.out.frozen 1; have f2 := HR.out.frozen 2
      simp only [List.getElem?_toArray, List.getElem?_cons_zero, List.getElem?_cons_succ] at r0 r1 r2
      subst hv
      clear HV
      go_wp2
      refine bodyPost_ret (v := .tuple #[.agg #[.int .i64 wd, .int .i64 hg, .slice A (dcells r s k).length c], .int .i64 (dseed s k), .bool true]) (by simp [results, Try.results36, go_sem, r0, r1, r2]) rfl ⟨⟨A, c, rfl, ?_⟩, ?_⟩
      · have h9 := own_base (b' := w.heap.size) HO.out (by omega)
        have hne : ∀ a, A = some a → a.block ≠ w.heap.size := by
          rintro a rfl
          have := (HO.out.lt _ rfl).1
          omega
        exact own_set (own_set (own_set h9 (fun a ha => by simpa using hne a ha) _) (fun a ha => by simpa using hne a ha) _) (fun a ha => by simpa using hne a ha) _
      · exact ((HB.out.setCell (by simp) _).setCell (by simp) _).setCell (by simp) _
end Go.Proofs.Ytbefcfdmaafghaa
