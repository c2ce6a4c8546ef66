/- A shape as bytes: the program's way. -/
import Derived.Test.YtbefcfdmaafghaaStorePlain
import Derived.Lib.SlBytesConst
import Derived.ArgAppend
namespace Go.Proofs.Ytbefcfdmaafghaa
open Go.RowKit
set_option maxHeartbeats 4000000 in
set_option maxRecDepth 100000 in
theorem store_any (nm : ByteArray) (wd hg : Int) (A : Option Addr) (n c : Nat) (bs : List Bool) (w : World) (hnm : nm.size ≤ 8) (hwd : 0 ≤ wd ∧ wd ≤ 255) (hhg : 0 ≤ hg ∧ hg ≤ 255) (hn : bs.length = n) (hn0 : 0 < n) (hc : n ≤ 256) (hr : Rd w w.heap.size A (bs.map Value.bool)) :
    Calls Try.prog 108 #[.agg #[.string nm, .int .i64 wd, .int .i64 hg, .slice A n c]] w fun e w' => e = .returned (.string (storeT nm wd hg bs)) ∧ Below w.heap.size w w' := by
  obtain ⟨i0, hi, hz0, hz1, hz2⟩ := info_parts Try.info5
  have Hr := Lib.hid hr; clear hr
  have hb0 : bs ≠ [] := by rintro rfl; simp at hn; omega
  have hp0 := packL_pos hb0
  have hp1 := packL_len (show bs.length ≤ 256 by omega)
  have Hn := Lib.hid hn; clear hn hb0
  have h1 : IntKind.u8.wrap (nm.size : Int) = (nm.size : Int) := IntWalk.u8_in _ (by omega)
  have h2 : IntKind.u8.wrap wd = wd := IntWalk.u8_in _ (by omega)
  have h3 : IntKind.u8.wrap hg = hg := IntWalk.u8_in _ (by omega)
  have kc := Lib.run_convert_bytes_const (P := Try.prog) (w.alloc (.cells #[.string nm, .int .i64 wd, .int .i64 hg, .slice A n c] 52)) 93 5 #[.int .u8 83, .int .u8 72, .int .u8 80, .int .u8 49] 4 4 Try.underlying93 Try.underlying5
  rw [World.size_alloc] at kc
  go_enter Try.func108, Try.ntmps108
  go_wp2_with (at_builtin; go_must (refine wpList_append_grows _ rfl (.tmp 8) (.tmp 13) 93 rfl 5 i0 (.int .u8 0) 1 1 Try.underlying93 hi hz0 hz1 hz2 rfl (by decide) (some ⟨w.heap.size + 1, 0, none⟩) 4 4 [.int .u8 83, .int .u8 72, .int .u8 80, .int .u8 49] rfl (by simp) rfl ?_ ⟨w.heap.size + 1 + 1, 0, none⟩ 1 1 [.int .u8 nm.size] rfl rfl ?_ ?_ ?_ ?_ ?_ ?_))
  · rintro b ⟨⟩ j u hu
    rw [add_flat]
    rw [World.cell?_alloc_lt _ _ _ (by simp), new_cell _ _ _ _ _ _ (by simp)]
    rcases j with _ | _ | _ | _ | j <;> simp at hu <;> subst hu <;> rfl
  · intro j u hu
    rw [add_flat]
    rcases j with _ | j <;> simp at hu
    subst hu
    simp [go_sem]
  · intro u hu
    simp at hu
    subst hu
    rfl
  · omega
  · unfold maxLen; omega
  · omega
  intro v1 w1 ho1 hg1
  have HB1 := Lib.hid ((((Below.refl (w.heap.size + 1) (w.alloc (.cells #[.string nm, .int .i64 wd, .int .i64 hg, .slice A n c] 52))).alloc (by simp) _).alloc (by simp) _).grown hg1 (by simp) (fun k hk => by cases hk))
  obtain ⟨acc, hacc⟩ : ∃ acc : List Int, acc = [83, 72, 80, 49] ++ [(nm.size : Int)] := ⟨_, rfl⟩
  have HO1 : Hid (w1.ownsRow (w.heap.size + 1) 5 1 v1 acc.length (acc.map (Value.int .u8))) := Lib.hid (by rw [hacc]; exact own_base (by simpa using ho1) (by simp))
  have hl1 : acc.length ≤ 5 := by rw [hacc]; simp
  have HE1 := Lib.hid hacc
  clear ho1 hg1 hacc
  have HX1 := (SBox.new w 52 nm wd hg (.slice A n c)).below HB1.out (by simp)
  obtain ⟨k0, k1, k2, k3⟩ := id HX1
  have hz1' : w.heap.size + 1 ≤ w1.heap.size := by have := HB1.out.size; simpa using this
  go_wp2_with (at_builtin; go_must (refine Lib.wpList_append_own_string _ rfl (.tmp 15) (.tmp 17) 93 9 rfl (w.heap.size + 1) 5 i0 Try.underlying93 Try.underlying9 hi hz0 hz1 hz2 _ _ _ rfl HO1.out nm rfl ?_ ?_ ?_ ?_))
  · unfold maxLen; omega
  · omega
  · exact hz1'
  intro v2 w2 ho2 hg2 _
  have HB2 := Lib.hid (HB1.out.grown hg2 hz1' (fun k hk => (HO1.out.lt k hk).1))
  obtain ⟨acc2, hacc⟩ : ∃ acc2 : List Int, acc2 = acc ++ bytesI nm := ⟨_, rfl⟩
  have HO2 : Hid (w2.ownsRow (w.heap.size + 1) 5 1 v2 acc2.length (acc2.map (Value.int .u8))) := Lib.hid (by rw [hacc]; exact own_str ho2)
  have hl2 : acc2.length ≤ 13 := by rw [hacc, List.length_append, bytesI_len]; omega
  have HE2 := Lib.hid hacc
  clear ho2 hg2 HO1 hacc HX1 k0 k1 k2 k3 hl1
  have HX2 := (SBox.new w 52 nm wd hg (.slice A n c)).below HB2.out (by simp)
  obtain ⟨k0, k1, k2, k3⟩ := id HX2
  have hz2' : w.heap.size + 1 ≤ w2.heap.size := by have := HB2.out.size; simpa using this
  clear HB1 hz1'
  go_wp2_with (at_builtin; go_must (refine wpList_append_own _ rfl (.tmp 19) (.tmp 28) 93 rfl (w.heap.size + 1) 5 i0 (.int .u8 0) 1 1 Try.underlying93 hi hz0 hz1 hz2 rfl (by decide) _ _ _ rfl (HO2.out.alloc _) ⟨w2.heap.size, 0, none⟩ 2 2 [.int .u8 wd, .int .u8 hg] rfl rfl (new2 w2 _ _ 5) (one2 _ _ _ _) ?_ ?_ ?_ ?_))
  · unfold maxLen; omega
  · omega
  · simp; omega
  intro v3 w3 ho3 hg3 _
  have HB3 := Lib.hid ((HB2.out.alloc hz2' _).grown hg3 (by simp; omega) (fun k hk => (HO2.out.lt k hk).1))
  obtain ⟨acc3, hacc⟩ : ∃ acc3 : List Int, acc3 = acc2 ++ [wd, hg] := ⟨_, rfl⟩
  have HO3 : Hid (w3.ownsRow (w.heap.size + 1) 5 1 v3 acc3.length (acc3.map (Value.int .u8))) := Lib.hid (by rw [hacc]; exact own_app (new := [wd, hg]) rfl ho3)
  have hl3 : acc3.length ≤ 15 := by rw [hacc, List.length_append]; simp; omega
  have HE3 := Lib.hid hacc
  clear ho3 hg3 HO2 hacc HX2 k0 k1 k2 k3 hl2
  have HX3 := (SBox.new w 52 nm wd hg (.slice A n c)).below HB3.out (by simp)
  obtain ⟨k0, k1, k2, k3⟩ := id HX3
  have hz3' : w.heap.size + 1 ≤ w3.heap.size := by have := HB3.out.size; simpa using this
  clear HB2 hz2'
  have HR3 := Lib.hid ((((Hr.out.alloc (Nat.le_refl _) _).more (B' := w.heap.size + 1) (by omega)).below HB3.out).more hz3')
  go_wp2_with fail
  refine (pack_any A n c bs _ Hn.out hc HR3.out).mono ?_
  rintro e w4 ⟨⟨v4, rfl, hp4⟩, hb4⟩
  have HB4 := Lib.hid (HB3.out.trans (hb4.mono hz3'))
  have hp4' := own_base (b' := w.heap.size + 1) hp4 hz3'
  obtain ⟨g4, c4, rfl⟩ := own_some hp4' hp0
  have HP4 := Lib.hid hp4'
  have hlo4 := (hp4.lt g4 rfl).1
  have HLT3 := Lib.hid (fun k hk => (HO3.out.lt k hk).2)
  have HO4 := Lib.hid (own_next HO3.out hb4)
  obtain ⟨A3, c3, rfl⟩ := own_shape HO4.out
  have HX4 := HX3.below hb4 (by omega)
  clear hp4 hp4' hb4 HO3 HX3 k0 k1 k2 k3 HR3 HB3
  have hz4' : w.heap.size + 1 ≤ w4.heap.size := by have := HB4.out.size; simpa using this
  clear hz3'
  go_wp2_with fail
  refine (twoBytes_any (w.heap.size + 1) A3 acc3.length c3 (packL bs).length acc3 w4 (by omega) rfl (by omega) hz4' HO4.out).mono ?_
  rintro e w5 ⟨v5, rfl, ho5, hb5, hk5⟩
  have HB5 := Lib.hid (HB4.out.trans hb5)
  have HP5 := Lib.hid (hk5.own HP4.out (by rintro a rfl; have h1 := HLT3.out a.block rfl; omega))
  obtain ⟨acc5, hacc⟩ : ∃ acc5 : List Int, acc5 = acc3 ++ two (packL bs).length := ⟨_, rfl⟩
  have HO5 : Hid (w5.ownsRow (w.heap.size + 1) 5 1 v5 acc5.length (acc5.map (Value.int .u8))) := Lib.hid (by rw [hacc]; exact ho5)
  have hl5 : acc5.length ≤ 17 := by rw [hacc, List.length_append]; simp [two]; omega
  have HE5 := Lib.hid hacc
  have hz5' : w.heap.size + 1 ≤ w5.heap.size := by have := HB5.out.size; simpa using this
  clear ho5 hb5 hk5 hacc HO4 HP4 HB4 hl3 HX4 hz4'
  go_wp2_with (at_builtin; go_must (refine wpList_append_own _ rfl (.tmp 38) (.tmp 39) 93 rfl (w.heap.size + 1) 5 i0 (.int .u8 0) 1 1 Try.underlying93 hi hz0 hz1 hz2 rfl (by decide) _ _ _ rfl HO5.out ⟨g4, 0, none⟩ (packL bs).length c4 ((packL bs).map (Value.int .u8)) rfl (by simp) (HP5.out.cells rfl) (one_u8 _) ?_ ?_ ?_ ?_))
  · unfold maxLen; omega
  · omega
  · exact hz5'
  intro v6 w6 ho6 hg6 _
  have HB6 := Lib.hid (HB5.out.grown hg6 hz5' (fun k hk => (HO5.out.lt k hk).1))
  obtain ⟨acc6, hacc⟩ : ∃ acc6 : List Int, acc6 = acc5 ++ packL bs := ⟨_, rfl⟩
  have HO6 : Hid (w6.ownsRow (w.heap.size + 1) 5 1 v6 acc6.length (acc6.map (Value.int .u8))) := Lib.hid (by rw [hacc]; exact own_app rfl ho6)
  have hl6 : acc6.length ≤ 1043 := by rw [hacc, List.length_append]; omega
  have HE6 := Lib.hid hacc
  have hz6' : w.heap.size + 1 ≤ w6.heap.size := by have := HB6.out.size; simpa using this
  clear ho6 hg6 hacc HO5 HP5 HB5 hl5 hz5'
  obtain ⟨A6, c6, rfl⟩ := own_shape HO6.out
  have hcv := own_string HO6.out
  go_wp2_with fail
  refine (checkOf_any (strOfNums acc6) w6 (by rw [strOfNums_size]; omega)).mono ?_
  rintro e w7 ⟨rfl, rfl⟩
  have hq := chk_lt (bytesN (strOfNums acc6))
  obtain ⟨q, hqe⟩ : ∃ q, q = chk (bytesN (strOfNums acc6)) := ⟨_, rfl⟩
  rw [← hqe] at hq ⊢
  have HQ := Lib.hid hqe
  clear hcv hqe
  go_wp2_with fail
  refine (twoBytes_any (w.heap.size + 1) A6 acc6.length c6 q acc6 w6 (by omega) rfl (by omega) hz6' HO6.out).mono ?_
  rintro e w8 ⟨v8, rfl, ho8, hb8, _⟩
  have HB8 := Lib.hid (HB6.out.trans hb8)
  have hcv := own_string ho8
  have HF : Hid (strOfNums (acc6 ++ two q) = storeT nm wd hg bs) := Lib.hid (by
    have e6 : acc6 = storeB nm wd hg bs := by rw [HE6.out, HE5.out, HE3.out, HE2.out, HE1.out]; rfl
    unfold storeT
    rw [HQ.out, e6])
  clear ho8 hb8
  go_wp2
  go_ret
  exact ⟨by rw [HF.out]; rfl, (below_new w _).trans (HB8.out.mono (by simp))⟩
end Go.Proofs.Ytbefcfdmaafghaa
