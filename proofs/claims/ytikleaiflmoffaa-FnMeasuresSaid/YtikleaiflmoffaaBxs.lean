/- Boxes of points and how many points each has. -/
import Derived.Test.YtikleaiflmoffaaIdx
import Derived.OwnWalk
namespace Go.Proofs.Ytikleaiflmoffaa
open Ieee Go.RowKit
theorem Try.info69 : (Try.prog.info? 69).map (fun i => (i.zero, i.size, i.bytes)) = some (some (.agg #[.int .i64 0, .int .i64 0]), 2, 16) := by kernel_rfl
def flatB (L : List (Int × Int)) : List Value := L.flatMap fun p => [.int .i64 p.1, .int .i64 p.2]
theorem flatB_snoc (L : List (Int × Int)) (p : Int × Int) : flatB (L ++ [p]) = flatB L ++ [.int .i64 p.1, .int .i64 p.2] := by simp [flatB]
theorem flatB_at : ∀ (L : List (Int × Int)) (k : Nat) (h : k < L.length), (flatB L)[k * 2]? = some (.int .i64 L[k].1) ∧ (flatB L)[k * 2 + 1]? = some (.int .i64 L[k].2) := by
  intro L
  induction L with
  | nil => intro k h; simp at h
  | cons p L ih =>
    intro k h
    have e : flatB (p :: L) = .int .i64 p.1 :: .int .i64 p.2 :: flatB L := by simp [flatB]
    rw [e]
    cases k with
    | zero => exact ⟨rfl, rfl⟩
    | succ k =>
      have := ih k (by simpa using h)
      rw [show (k + 1) * 2 = k * 2 + 1 + 1 by omega, show k * 2 + 1 + 1 + 1 = (k * 2 + 1) + 1 + 1 by omega]
      simpa using this
theorem flatB_len (L : List (Int × Int)) : (flatB L).length = L.length * 2 := by
  induction L with
  | nil => rfl
  | cons p L ih =>
    have e : flatB (p :: L) = .int .i64 p.1 :: .int .i64 p.2 :: flatB L := by simp [flatB]
    rw [e, List.length_cons, List.length_cons, ih, List.length_cons]
    omega
theorem rdB_own {w : World} {B g n c : Nat} {L : List (Int × Int)} (h : w.ownsRow B 69 2 (.slice (some ⟨g, 0, none⟩) n c) n (flatB L)) : RdB w w.heap.size g L := by
  have hl := h.1
  rw [flatB_len] at hl
  refine .inr ⟨(h.lt g rfl).2, fun k hk => ?_⟩
  obtain ⟨a, b⟩ := flatB_at L k hk
  exact ⟨by rw [h.cellAt (k * 2) (by omega)]; exact a, by rw [h.cellAt (k * 2 + 1) (by omega)]; exact b⟩
/-- the boxes of points, each once -/
def disS (L : List (Int × Int)) (b : Int × Int) : List (Int × Int) := if b ∈ L then L else L ++ [b]
def disL (Q : List (Int × Int)) : List (Int × Int) := Q.foldl disS []
def bq (d : Int) (p : Int × Int) : Int × Int := (p.1 / d, p.2 / d)
theorem new2 (w : World) (a b : Value) (t : TypeId) : ∀ j u, [a, b][j]? = some u → (w.alloc (.cells #[a, b] t)).cell? ((⟨w.heap.size, 0, none⟩ : Addr).add j) = some u := by
  intro j u hu
  rcases j with _ | _ | j
  · simp at hu; subst hu; rw [addr_z]; simp [go_sem]
  · simp at hu; subst hu; rw [addr_z]; simp [go_sem]
  · simp at hu
theorem one2 (x y : Int) : ∀ u ∈ [Value.int .i64 x, Value.int .i64 y], u.oneCell' = true := by
  intro u hu
  simp at hu
  rcases hu with rfl | rfl <;> rfl
theorem oneI (x : Int) : ∀ u ∈ [Value.int .i64 x], u.oneCell' = true := by
  intro u hu
  simp at hu
  subst hu
  rfl
/-- counts of boxes -/
structure Cnt (C : List Int) (m k : Nat) : Prop where
  len : C.length = m
  sum : C.sum = (k : Int)
  pos : ∀ c ∈ C, 1 ≤ c
theorem dis_step {P : List (Int × Int)} {d : Int} {k : Nat} (h : k < P.length) : disL ((P.take (k + 1)).map (bq d)) = disS (disL ((P.take k).map (bq d))) (bq d P[k]) := by
  rw [List.take_succ_eq_append_getElem h, List.map_append]
  unfold disL
  rw [List.foldl_append]
  rfl
theorem dis_le (d : Int) (P : List (Int × Int)) (k : Nat) : (disL ((P.take k).map (bq d))).length ≤ k := by
  induction k with
  | zero => simp [disL]
  | succ k ih =>
    by_cases h : k < P.length
    · rw [dis_step h]
      unfold disS
      split
      · omega
      · rw [List.length_append, List.length_singleton]; omega
    · rw [List.take_of_length_le (by omega)]
      rw [List.take_of_length_le (by omega)] at ih
      omega
theorem sum_set {C : List Int} {j : Nat} (h : j < C.length) : (C.set j (C[j] + 1)).sum = C.sum + 1 := by
  induction C generalizing j with
  | nil => simp at h
  | cons c C ih =>
    cases j with
    | zero => simp; omega
    | succ j =>
      have := ih (j := j) (by simpa using h)
      simp at this ⊢
      omega
theorem cnt_up {C : List Int} {m k j : Nat} (h : Cnt C m k) (hj : j < C.length) : Cnt (C.set j (C[j] + 1)) m (k + 1) := by
  refine ⟨by rw [List.length_set, h.len], by rw [sum_set hj, h.sum]; omega, fun c hc => ?_⟩
  rcases List.mem_or_eq_of_mem_set hc with h1 | h1
  · exact h.pos c h1
  · rw [h1]; have := h.pos _ (List.getElem_mem hj); omega
theorem cnt_new {C : List Int} {m k : Nat} (h : Cnt C m k) : Cnt (C ++ [1]) (m + 1) (k + 1) := by
  refine ⟨by rw [List.length_append, h.len]; rfl, by rw [List.sum_append, h.sum]; simp, fun c hc => ?_⟩
  rcases List.mem_append.1 hc with h1 | h1
  · exact h.pos c h1
  · simp at h1; omega
theorem le_sum {C : List Int} (h : ∀ c ∈ C, 1 ≤ c) {j : Nat} (hj : j < C.length) : C[j] ≤ C.sum := by
  induction C generalizing j with
  | nil => simp at hj
  | cons c C ih =>
    have hn : 0 ≤ C.sum := by
      clear ih hj
      induction C with
      | nil => simp
      | cons a C ih2 =>
        have h1 := h a (by simp)
        have h2 := ih2 (fun x hx => h x (by simp at hx ⊢; rcases hx with hx | hx <;> simp [hx]))
        rw [List.sum_cons]; omega
    have hc := h c (by simp)
    cases j with
    | zero => simp; omega
    | succ j =>
      have := ih (fun x hx => h x (List.mem_cons_of_mem _ hx)) (j := j) (by simpa using hj)
      simp at this ⊢
      omega
theorem set_last (C : List Int) (m : Nat) (h : C.length = m) : (C ++ [0]).set m 1 = C ++ [1] := by
  subst h
  rw [List.set_append_right _ _ (Nat.le_refl _)]
  simp
theorem set_map (C : List Int) (m : Nat) (h : C.length = m) : ((C ++ [0]).map (Value.int .i64)).set m (.int .i64 1) = (C ++ [1]).map (Value.int .i64) := by
  rw [← set_last C m h, List.map_set]
theorem shapeO {w : World} {B : Nat} {e : TypeId} {z : Nat} {v : Value} {n : Nat} {xs : List Value} (h : w.ownsRow B e z v (n + 1) xs) : ∃ g cp, v = .slice (some ⟨g, 0, none⟩) (n + 1) cp := by
  rcases h.2 with ⟨hv, h0⟩ | ⟨g, cap, cur, hv, _⟩
  · omega
  · exact ⟨g, cap, hv⟩
set_option maxRecDepth 100000 in
set_option maxHeartbeats 8000000 in
theorem boxes_any (A : Option Addr) (n c y : Nat) (P : List (Int × Int)) (d : Int) (w : World) (hP : Pts P n) (hm : n ≤ 100) (hf : finB y = true) (h0 : gtB y = true) (HX : ∀ a : Int, -16 ≤ a → a ≤ 16 → BxOk (eZ a) y (a / d)) (hr : Rd w w.heap.size A (P.map cvP)) :
    Calls Try.prog 19 #[.slice A n c, .float .f32 y] w fun e w' => (∃ (g1 c1 g2 c2 : Nat) (C : List Int), e = .returned (.tuple #[.slice (some ⟨g1, 0, none⟩) (disL (P.map (bq d))).length c1, .slice (some ⟨g2, 0, none⟩) (disL (P.map (bq d))).length c2, .bool true]) ∧ Cnt C (disL (P.map (bq d))).length n ∧ w'.ownsRow w.heap.size 2 1 (.slice (some ⟨g2, 0, none⟩) (disL (P.map (bq d))).length c2) (disL (P.map (bq d))).length (C.map (Value.int .i64))) ∧ Below w.heap.size w w' := by
  obtain ⟨i0, hi, hz0, hz1, hz2⟩ := info_parts Try.info69
  obtain ⟨i2, hi2, hy0, hy1, hy2⟩ := info_parts Try.info2
  have HA := Lib.hid (arePoints_any A n c P w hP (by omega) hr)
  have HF := Lib.hid (fun W => isFinite_any y W)
  rw [hf] at HF
  have hgt : (FloatKind.f32.format.order y 0 == some .gt) = true := h0
  have HBX := Lib.hid HX
  have HP := Lib.hid hP
  have Hr := Lib.hid hr
  clear hP hr hf h0 HX
  go_enter Try.func19, Try.ntmps19
  go_wp2_with fail
  refine HA.out.mono ?_
  rintro e w1 ⟨rfl, hb1⟩
  have B1 := Lib.hid hb1
  have R1 := Lib.hid (Hr.out.next hb1)
  clear hb1 HA
  go_wp2_with fail
  refine (HF.out _).mono ?_
  rintro e w' ⟨rfl, hq2⟩
  obtain ⟨w2, hw2⟩ : ∃ x, x = w' := ⟨_, rfl⟩
  rw [← hw2] at hq2 ⊢
  have B2 := Lib.hid (below_drw B1.out hq2)
  clear hq2 hw2 B1 R1 HF
  have hsz2 := B2.out.size
  have HO1 : Hid (((w2.alloc (.cells #[] 69)).alloc (.cells #[] 2)).ownsRow w.heap.size 69 2 (.slice (some ⟨w2.heap.size, 0, none⟩) 0 0) 0 (flatB [])) := Lib.hid ((World.ownsRow_made (e := 69) (size := 2) w2 #[] 0 hsz2 (Nat.zero_le _) rfl).alloc _)
  have HO2 : Hid (((w2.alloc (.cells #[] 69)).alloc (.cells #[] 2)).ownsRow w.heap.size 2 1 (.slice (some ⟨w2.heap.size + 1, 0, none⟩) 0 0) 0 []) := Lib.hid (by
    have h := World.ownsRow_made (base := w.heap.size) (e := 2) (size := 1) (w2.alloc (.cells #[] 69)) #[] 0 (by simp; omega) (Nat.zero_le _) rfl
    simpa using h)
  have HB0 : Hid (Below w.heap.size w ((w2.alloc (.cells #[] 69)).alloc (.cells #[] 2))) := Lib.hid ((B2.out.alloc hsz2 _).alloc (by simp; omega) _)
  go_wp2_with fail
  go_loopw [7, 8, 10, 11, 12, 13, 14, 15, 33] (fun s7 s8 _ _ _ _ _ _ i wr => ∃ (k g1 c1 g2 c2 : Nat) (L : List (Int × Int)) (C : List Int), k ≤ n ∧ i = .int .i64 k ∧ Hid (L = disL ((P.take k).map (bq d))) ∧ s7 = .slice (some ⟨g1, 0, none⟩) L.length c1 ∧ s8 = .slice (some ⟨g2, 0, none⟩) L.length c2 ∧ Hid (Cnt C L.length k) ∧ wr.ownsRow w.heap.size 69 2 (.slice (some ⟨g1, 0, none⟩) L.length c1) L.length (flatB L) ∧ wr.ownsRow w.heap.size 2 1 (.slice (some ⟨g2, 0, none⟩) L.length c2) L.length (C.map (Value.int .i64)) ∧ Hid (g1 ≠ g2) ∧ Below w.heap.size w wr) (fun _ _ _ _ _ _ _ _ i _ => n - (intOf i).toNat)
  case atStart => exact ⟨0, _, _, _, _, [], [], Nat.zero_le _, rfl, Lib.hid rfl, rfl, rfl, Lib.hid ⟨rfl, rfl, fun c hc => by cases hc⟩, HO1.out, HO2.out, Lib.hid (by omega), HB0.out⟩
  case round =>
    obtain ⟨k, g1, c1, g2, c2, L, C, hk, rfl, HL, rfl, rfl, HC, ho1, ho2, HNE, hb⟩ := hrel
    have O1 := Lib.hid ho1
    have O2 := Lib.hid ho2
    have HB := Lib.hid hb
    have hwz := hb.size
    clear ho1 ho2 hb HO1 HO2 HB0
    by_cases hlt : k < n
    · have hka : k < P.length := by rw [HP.out.len]; exact hlt
      obtain ⟨ad, rfl, hc⟩ := pts_cell (Hr.out.below HB.out) hka
      have hpt := HP.out.get hka
      have HST := Lib.hid (dis_step (d := d) hka)
      rw [← HL.out] at HST
      have hl100 : L.length ≤ 100 := by have := dis_le d P k; rw [← HL.out] at this; omega
      obtain ⟨p, hp⟩ : ∃ p, p = P[k] := ⟨_, rfl⟩
      rw [← hp] at hc hpt HST
      have HB1 := Lib.hid (HBX.out p.1 hpt.1.1 hpt.1.2)
      have HB2 := Lib.hid (HBX.out p.2 hpt.2.1 hpt.2.2)
      have HX1 := Lib.hid (fun W => boxPart_any (eZ p.1) y (p.1 / d) W HB1.out)
      have HX2 := Lib.hid (fun W => boxPart_any (eZ p.2) y (p.2 / d) W HB2.out)
      have HBQ : Hid (bq d p = (p.1 / d, p.2 / d)) := Lib.hid rfl
      unfold cvP at hc
      obtain ⟨xr, hxr⟩ : ∃ x, x = eZ p.1 := ⟨_, rfl⟩
      obtain ⟨xi, hxi⟩ : ∃ x, x = eZ p.2 := ⟨_, rfl⟩
      rw [← hxr] at hc HX1
      rw [← hxi] at hc HX2
      obtain ⟨X, hX⟩ : ∃ x, x = p.1 / d := ⟨_, rfl⟩
      obtain ⟨Y, hY⟩ : ∃ x, x = p.2 / d := ⟨_, rfl⟩
      rw [← hX] at HX1 HBQ
      rw [← hY] at HX2 HBQ
      have HID := Lib.hid (index_any g1 L.length c1 L (X, Y) wr rfl (by omega) (rdB_own O1.out))
      have hkn : (k : Int) < (n : Int) := by omega
      clear hp hpt HB1 HB2 hxr hxi hX hY hka
      go_wp2_with fail
      refine (HX1.out _).mono ?_
      rintro e w' ⟨rfl, hw⟩
      rw [hw]
      clear hw w'
      go_wp2_with fail
      refine (HX2.out _).mono ?_
      rintro e w' ⟨rfl, hw⟩
      rw [hw]
      clear hw w'
      go_wp2_with fail
      unfold bxV at HID
      refine HID.out.mono ?_
      rintro e w3 ⟨⟨ii, rfl, hfnd⟩, hb3⟩
      have O13 := Lib.hid (own_next O1.out hb3)
      have O23 := Lib.hid (own_next O2.out hb3)
      have B3 := Lib.hid (bthen HB.out hb3)
      have hsz3 : w.heap.size ≤ w3.heap.size := B3.out.size
      have HCL := Lib.hid HC.out.len
      clear hb3 O1 O2 HB HID HX1 HX2 hc
      rcases hfnd with ⟨rfl, hni⟩ | ⟨j, hj, rfl, hje⟩
      · have HDS : Hid (disL ((P.take (k + 1)).map (bq d)) = L ++ [(X, Y)]) := Lib.hid (by rw [HST.out, HBQ.out]; unfold disS; rw [if_neg hni])
        have HT : Hid (Two (.slice (some ⟨g1, 0, none⟩) L.length c1) (.slice (some ⟨g2, 0, none⟩) L.length c2)) := Lib.hid ⟨_, _, rfl, rfl, HNE.out⟩
        obtain ⟨q, hq⟩ : ∃ q, q = L.length := ⟨_, rfl⟩
        have HQ := Lib.hid hq
        have HLQ : Hid ((L ++ [(X, Y)]).length = q + 1) := Lib.hid (by rw [List.length_append, hq]; rfl)
        rw [← hq] at O13 O23 HT hl100 HCL HC ⊢
        clear hq hni HNE
        go_wp2_with (at_builtin; go_must (refine wpList_append_own_at _ rfl (.tmp 66) (.tmp 70) 49 rfl w.heap.size 69 i0 (.agg #[.int .i64 0, .int .i64 0]) 2 16 Try.underlying49 hi hz0 hz1 hz2 rfl (by decide) _ _ _ rfl (O13.out.alloc _) ⟨w3.heap.size, 0, none⟩ 1 1 [.int .i64 X, .int .i64 Y] rfl rfl (new2 w3 _ _ 69) (one2 _ _) ?_ ?_ ?_ ?_))
        · unfold maxLen; omega
        · omega
        · simp; omega
        intro v5 w5 hown5 hgrow5 _ hat5
        have hv5 : w5.ownsRow w.heap.size 69 2 v5 (q + 1) (flatB (L ++ [(X, Y)])) := by rw [flatB_snoc]; exact hown5
        obtain ⟨g1', c1', hsh5⟩ := shapeO hv5
        subst hsh5
        have HV5 := Lib.hid hv5
        have HB5 := Lib.hid ((B3.out.alloc hsz3 (.cells #[.int .i64 X, .int .i64 Y] 69)).grown hgrow5 (by simp; omega) (fun q hq => (O13.out.lt q hq).1))
        have HR5 := Lib.hid ((O23.out.alloc (.cells #[.int .i64 X, .int .i64 Y] 69)).kept hgrow5 HT.out.kept)
        have HT5 := Lib.hid (HT.out.grow hat5 (fun q hq => by have := (O23.out.lt q hq).2; simp; omega))
        have hw5 := HB5.out.size
        clear hown5 hv5 hgrow5 hat5
        go_wp2_with (at_builtin; go_must (refine wpList_append_own_at _ rfl (.tmp 72) (.tmp 73) 30 rfl w.heap.size 2 i2 (.int .i64 0) 1 8 Try.underlying30 hi2 hy0 hy1 hy2 rfl (by decide) _ _ _ rfl (HR5.out.alloc _) ⟨w5.heap.size, 0, none⟩ 1 1 [.int .i64 0] rfl rfl (newOne w5 _ 2) (oneI _) ?_ ?_ ?_ ?_))
        · unfold maxLen; omega
        · omega
        · simp; omega
        intro v6 w6 hown6 hgrow6 _ hat6
        have hv6 : w6.ownsRow w.heap.size 2 1 v6 (q + 1) ((C ++ [0]).map (Value.int .i64)) := by simpa using hown6
        obtain ⟨g2', c2', hsh6⟩ := shapeO hv6
        subst hsh6
        have HB6 := Lib.hid ((HB5.out.alloc hw5 (.cells #[.int .i64 0] 2)).grown hgrow6 (by simp; omega) (fun q hq => (HR5.out.lt q hq).1))
        have HL6 := Lib.hid ((HV5.out.alloc (.cells #[.int .i64 0] 2)).kept hgrow6 HT5.out.symm.kept)
        have HT6 := Lib.hid ((HT5.out.symm.grow hat6 (fun q hq => by have := (HV5.out.lt q hq).2; simp; omega)).symm)
        have HNE6 : Hid (g1' ≠ g2') := Lib.hid (by
          obtain ⟨a, b, h1, h2, h3⟩ := HT6.out
          cases h1; cases h2
          exact h3)
        have HV6 := Lib.hid hv6
        have hcc : w6.cell? ⟨g2', q, none⟩ = some (.int .i64 0) := by
          rw [HV6.out.cellAt q (by omega), List.map_append, List.getElem?_append_right (by rw [List.length_map, HCL.out]; exact Nat.le_refl _), List.length_map, HCL.out, Nat.sub_self]; rfl
        have hff : w6.frozen? ⟨g2', q, none⟩ = false := HV6.out.frozenAt q
        have hst := (HV6.out.stored q (.int .i64 1)).1
        rw [set_map C q HCL.out] at hst
        have HST2 := Lib.hid hst
        have HC2 := Lib.hid (cnt_new HC.out)
        have HO14 := Lib.hid (own_set HL6.out (p := ⟨g2', q, none⟩) (by rintro a ⟨⟩; simp; exact HNE6.out) (.int .i64 1))
        have HB7 := Lib.hid (HB6.out.setCell (p := ⟨g2', q, none⟩) (by have := (HV6.out.lt g2' rfl).1; exact this) (.int .i64 1))
        clear hown6 hv6 hgrow6 hat6 HV5 HB5 HR5 HT5 hst HT6 HL6 HV6 HB6
        go_wp2_with fail
        go_roundw
        case rel => exact ⟨k + 1, g1', c1', g2', c2', L ++ [(X, Y)], C ++ [1], by omega, by go_num, Lib.hid HDS.out.symm, by rw [HLQ.out], by rw [HLQ.out], Lib.hid (by rw [HLQ.out]; exact HC2.out), by rw [HLQ.out]; exact HO14.out, by rw [HLQ.out]; exact HST2.out, HNE6, HB7.out⟩
        case measure => simp [intOf]; omega
      · have HDS : Hid (disL ((P.take (k + 1)).map (bq d)) = L) := Lib.hid (by rw [HST.out, HBQ.out]; unfold disS; rw [if_pos (by rw [← hje]; exact List.getElem_mem hj)])
        have hjc : j < C.length := by rw [HCL.out]; exact hj
        have hcc : w3.cell? ⟨g2, j, none⟩ = some (.int .i64 C[j]) := by
          rw [O23.out.cellAt j (by omega), List.getElem?_map, List.getElem?_eq_getElem hjc]; rfl
        have hff : w3.frozen? ⟨g2, j, none⟩ = false := O23.out.frozenAt j
        have hst := (O23.out.stored j (.int .i64 (C[j] + 1))).1
        rw [show (C.map (Value.int .i64)).set j (.int .i64 (C[j] + 1)) = (C.set j (C[j] + 1)).map (Value.int .i64) by rw [List.map_set]] at hst
        have HST2 := Lib.hid hst
        have HC2 := Lib.hid (cnt_up HC.out hjc)
        have hcb : 1 ≤ C[j] ∧ C[j] ≤ 100 := by
          have h1 := HC.out.pos _ (List.getElem_mem hjc)
          have h2 := le_sum HC.out.pos hjc
          have h3 := HC.out.sum
          omega
        have HO14 := Lib.hid (own_set O13.out (p := ⟨g2, j, none⟩) (by rintro a ⟨⟩; simp; exact HNE.out) (.int .i64 (C[j] + 1)))
        have HB4 := Lib.hid (B3.out.setCell (p := ⟨g2, j, none⟩) (by have := (O23.out.lt g2 rfl).1; exact this) (.int .i64 (C[j] + 1)))
        obtain ⟨cj, hcj⟩ : ∃ x, x = C[j] := ⟨_, rfl⟩
        rw [← hcj] at hcc HST2 HC2 hcb HO14 HB4
        have hjL : (j : Int) < (L.length : Int) := by omega
        have hj0 : ¬ (j : Int) < 0 := by omega
        clear hst hcj hje
        go_wp2_with fail
        go_roundw
        case rel => exact ⟨k + 1, g1, c1, g2, c2, L, _, by omega, by go_num, Lib.hid HDS.out.symm, rfl, rfl, HC2, HO14.out, HST2.out, HNE, HB4.out⟩
        case measure => simp [intOf]; omega
    · obtain rfl : k = n := by omega
      have hT : P.take k = P := List.take_of_length_le (by rw [HP.out.len]; omega)
      have els := HL.out
      rw [hT] at els
      go_wp2
      go_ret3
      rw [← els]
      exact ⟨⟨g1, c1, g2, c2, C, rfl, HC.out, O2.out⟩, HB.out⟩
end Go.Proofs.Ytikleaiflmoffaa
