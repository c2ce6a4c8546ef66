/- A shape as bytes: the reference's way. -/
import Derived.Test.YtbefcfdmaafghaaStoreImpl
import Derived.Lib.ConvBytes
import Derived.Deep.RegionLaw
import Derived.Deep.AppendLies
namespace Go.Proofs.Ytbefcfdmaafghaa
open Go.RowKit
theorem below_bytes (w : World) (e : TypeId) (s : ByteArray) : Below w.heap.size w (Lib.bytesWorld w e s) :=
  ⟨rfl, rfl, rfl, by rw [Lib.bytesWorld_size]; omega, fun k hk => Lib.bytesWorld_at_old w e s k hk⟩
theorem bytes_news (w : World) (s : ByteArray) : ∀ j u, (Lib.strCells s)[j]? = some u → (Lib.bytesWorld w 5 s).cell? ((⟨w.heap.size, 0, none⟩ : Addr).add j) = some u := by
  intro j u hu
  rw [add_flat, Nat.zero_add]
  have hj : j < s.size := by
    have := (List.getElem?_eq_some_iff.1 hu).1
    simpa [Lib.strCells] using this
  rw [Lib.bytesWorld_cell w 5 s j hj, ← hu]
  simp [Lib.strCells, List.getD, hj]
theorem strCells_len (s : ByteArray) : (Lib.strCells s).length = s.size := by simp [Lib.strCells]
theorem strCells_one (s : ByteArray) : ∀ u ∈ Lib.strCells s, u.oneCell' = true := by
  rw [strCells_bytesI]
  exact one_u8 _
theorem new4 (w : World) (a b c d : Value) (t : TypeId) : ∀ j u, [a, b, c, d][j]? = some u → (w.alloc (.cells #[a, b, c, d] t)).cell? ((⟨w.heap.size, 0, none⟩ : Addr).add j) = some u := by
  intro j u hu
  rw [add_flat, Nat.zero_add, new_cell _ _ _ _ _ _ rfl]
  simpa using hu
theorem new4d (w : World) (a b c d : Value) (t : TypeId) : ∀ j u, [a, b, c, d][j]? = some u → (w.alloc (.cells #[a, b, c, d] t)).drew.cell? ((⟨w.heap.size, 0, none⟩ : Addr).add j) = some u := new4 w a b c d t
theorem own_drew {w : World} {base : Nat} {e : TypeId} {size : Nat} {v : Value} {n : Nat} {xs : List Value} (h : w.ownsRow base e size v n xs) : w.drew.ownsRow base e size v n xs := h
theorem one4 (k : IntKind) (x y z u : Int) : ∀ v ∈ [Value.int k x, Value.int k y, Value.int k z, Value.int k u], v.oneCell' = true := by
  intro v hv
  simp at hv
  rcases hv with rfl | rfl | rfl | rfl <;> rfl
theorem bytesI_num {l : List Int} (h : ∀ x ∈ l, 0 ≤ x ∧ x < 256) : bytesI (strOfNums l) = l := by
  unfold bytesI bytesN
  rw [strOfNums_data, List.map_map, List.map_map]
  conv => rhs; rw [← List.map_id l]
  refine List.map_congr_left fun x hx => ?_
  have h1 := h x hx
  simp [UInt8.toNat_ofNat']
  omega
set_option maxHeartbeats 4000000 in
set_option maxRecDepth 100000 in
theorem l07Store_any (nm : ByteArray) (wd hg : Int) (A : Option Addr) (n c b : Nat) (bs : List Bool) (w : World) (hnm : nm.size ≤ 8) (hwd : 0 ≤ wd ∧ wd ≤ 255) (hhg : 0 ≤ hg ∧ hg ≤ 255) (hn : bs.length = n) (hn0 : 0 < n) (hc : n ≤ 256) (hr : Rd w w.heap.size A (bs.map Value.bool)) (hx : SBox w b nm wd hg (.slice A n c)) (hb : b < w.heap.size) :
    Calls Try.prog 107 #[.pointer (some ⟨b, 0, none⟩)] w fun e w' => e = .returned (.string (storeT nm wd hg bs)) ∧ Below w.heap.size w w' := by
  obtain ⟨i0, hi, hz0, hz1, hz2⟩ := info_parts Try.info5
  have Hr := Lib.hid hr; clear hr
  have hb0 : bs ≠ [] := by rintro rfl; simp at hn; omega
  have hp0 := packL_pos hb0
  have hp1 := packL_len (show bs.length ≤ 256 by omega)
  have HP := Lib.hid (packR_bd (b := false) (l := bs) (by omega))
  have Hn := Lib.hid hn; clear hn hb0
  have h1 : IntKind.u8.wrap (nm.size : Int) = (nm.size : Int) := IntWalk.u8_in _ (by omega)
  have h2 : IntKind.u8.wrap wd = wd := IntWalk.u8_in _ (by omega)
  have h3 : IntKind.u8.wrap hg = hg := IntWalk.u8_in _ (by omega)
  have kc := Lib.run_convert_bytes_const (P := Try.prog) w 93 5 #[.int .u8 83, .int .u8 72, .int .u8 80, .int .u8 49] 4 4 Try.underlying93 Try.underlying5
  obtain ⟨k0, k1, k2, k3⟩ := id hx
  have HX0 := Lib.hid hx; clear hx
  go_enter Try.func107, Try.ntmps107
  go_wp2_with (at_builtin; go_must (refine wpList_append_grows _ rfl (.tmp 7) (.tmp 14) 93 rfl 5 i0 (.int .u8 0) 1 1 Try.underlying93 hi hz0 hz1 hz2 rfl (by decide) (some ⟨w.heap.size, 0, none⟩) 4 4 [.int .u8 83, .int .u8 72, .int .u8 80, .int .u8 49] rfl (by simp) rfl ?_ ⟨w.heap.size + 1, 0, none⟩ 1 1 [.int .u8 nm.size] rfl rfl ?_ ?_ ?_ ?_ ?_ ?_))
  · rintro b ⟨⟩ j u hu
    rw [add_flat, World.cell?_alloc_lt _ _ _ (by simp), new_cell _ _ _ _ _ _ (by simp)]
    rcases j with _ | _ | _ | _ | j <;> simp at hu <;> subst hu <;> rfl
  · intro j u hu
    rw [add_flat]
    rcases j with _ | j <;> simp at hu
    subst hu
    simp [go_sem]
  · intro u hu
    simp at hu
    subst hu
    rfl
  · omega
  · unfold maxLen; omega
  · omega
  intro v1 w1 ho1 hg1
  have HB1 := Lib.hid ((((Below.refl w.heap.size w).alloc (Nat.le_refl _) _).alloc (by first | omega | (simp only [World.size_alloc]; omega) | (simp; done) | (simp; omega)) _).grown hg1 (by first | omega | (simp only [World.size_alloc]; omega) | (simp; done) | (simp; omega)) (fun k hk => by cases hk))
  obtain ⟨acc, hacc⟩ : ∃ acc : List Int, acc = [83, 72, 80, 49] ++ [(nm.size : Int)] := ⟨_, rfl⟩
  have HO1 : Hid (w1.ownsRow w.heap.size 5 1 v1 acc.length (acc.map (Value.int .u8))) := Lib.hid (by rw [hacc]; exact own_base (by simpa using ho1) (by first | omega | (simp only [World.size_alloc]; omega) | (simp; done) | (simp; omega)))
  have hl1 : acc.length ≤ 5 := by rw [hacc]; simp
  have HE1 := Lib.hid hacc
  clear ho1 hg1 hacc k0 k1 k2 k3 kc
  have HX1 := HX0.out.below HB1.out hb
  obtain ⟨k0, k1, k2, k3⟩ := id HX1
  have hz1' : w.heap.size ≤ w1.heap.size := HB1.out.size
  have kc := Lib.run_convert_string_bytes (P := Try.prog) w1 9 93 5 nm Try.underlying9 Try.underlying93 Try.underlying5
  have hN1 := Lib.hid (own_next HO1.out (below_bytes w1 5 nm))
  have hZ1 : w.heap.size ≤ (Lib.bytesWorld w1 5 nm).heap.size := by rw [Lib.bytesWorld_size]; omega
  go_wp2_with (at_builtin; go_must (refine wpList_append_own _ rfl (.tmp 16) (.tmp 21) 93 rfl w.heap.size 5 i0 (.int .u8 0) 1 1 Try.underlying93 hi hz0 hz1 hz2 rfl (by decide) _ _ _ rfl hN1.out ⟨w1.heap.size, 0, none⟩ nm.size (grownCap w1 nm.size 0 5) (Lib.strCells nm) rfl (by rw [strCells_len, Nat.mul_one]) (bytes_news w1 nm) (strCells_one nm) ?_ ?_ hZ1 ?_))
  · unfold maxLen; omega
  · omega
  intro v2 w2 ho2 hg2 _
  have HB2 := Lib.hid ((HB1.out.trans ((below_bytes w1 5 nm).mono hz1')).grown hg2 hZ1 (fun k hk => (HO1.out.lt k hk).1))
  obtain ⟨acc2, hacc⟩ : ∃ acc2 : List Int, acc2 = acc ++ bytesI nm := ⟨_, rfl⟩
  have HO2 : Hid (w2.ownsRow w.heap.size 5 1 v2 acc2.length (acc2.map (Value.int .u8))) := Lib.hid (by rw [hacc]; exact own_str ho2)
  have hl2 : acc2.length ≤ 13 := by rw [hacc, List.length_append, bytesI_len]; omega
  have HE2 := Lib.hid hacc
  clear ho2 hg2 HO1 hacc HX1 k0 k1 k2 k3 hl1 hN1 hZ1 kc
  have HX2 := HX0.out.below HB2.out hb
  obtain ⟨k0, k1, k2, k3⟩ := id HX2
  have hz2' : w.heap.size ≤ w2.heap.size := HB2.out.size
  clear HB1 hz1'
  have HR2 := Lib.hid ((Hr.out.below HB2.out).more hz2')
  go_wp2_with fail
  refine (l07Pack_any A n c bs _ Hn.out hc HR2.out).mono ?_
  rintro e w3 ⟨rfl, hb3⟩
  have HB3 := Lib.hid (HB2.out.trans (hb3.mono hz2'))
  have HO3 := Lib.hid (own_next HO2.out hb3)
  have HX3 := HX0.out.below HB3.out hb
  clear HX2 k0 k1 k2 k3 HB2 hb3 HO2 HR2
  obtain ⟨k0, k1, k2, k3⟩ := id HX3
  have hz3' : w.heap.size ≤ w3.heap.size := HB3.out.size
  clear hz2'
  obtain ⟨T, hT⟩ : ∃ T, T = strOfNums (packL bs) := ⟨_, rfl⟩
  have hTs : T.size ≤ 1026 := by rw [hT, strOfNums_size]; exact hp1
  have HT := Lib.hid hT
  rw [← hT]
  clear hT
  go_wp2_with fail
  have hr1 : IntKind.u8.wrap ((T.size : Int) % 256) = (T.size : Int) % 256 := IntWalk.u8_in _ (by omega)
  have hr2 : IntKind.u8.wrap ((T.size : Int) / 256) = (T.size : Int) / 256 := IntWalk.u8_in _ (by omega)
  have hw2 : IntKind.i64.wrap ((T.size : Int) / 256) = (T.size : Int) / 256 := IntWalk.i64_in _ (by omega)
  have ht1 : (T.size : Int).tmod 256 = (T.size : Int) % 256 := Int.tmod_eq_emod_of_nonneg (by omega)
  have ht2 : (T.size : Int).tdiv 256 = (T.size : Int) / 256 := Int.tdiv_eq_ediv_of_nonneg (by omega)
  go_region_law (refine step_append_lies _ rfl (.tmp 29) (.tmp 50) 93 rfl w.heap.size 5 i0 (.int .u8 0) 1 1 Try.underlying93 hi hz0 hz1 hz2 rfl (by decide) v2 acc2.length _ (by simp [Act.eval]) (own_drew (HO3.out.alloc _)) ⟨w3.heap.size, 0, none⟩ 4 4 [.int .u8 wd, .int .u8 hg, .int .u8 ((T.size : Int) % 256), .int .u8 ((T.size : Int) / 256)] (by simp [Act.eval]) rfl (new4d w3 _ _ _ _ 5) (one4 _ _ _ _ _) (by decide) (by unfold maxLen; omega) (by omega) (by simp; omega) _ rfl ?_; intro g4 c4 w4 ho4 hg4 _ _)
  all_goals
    clear ht1 ht2 hw2
    have HB4 := Lib.hid ((HB3.out.trans (below_drewN ((Below.refl w.heap.size w3).alloc hz3' _) 1)).grown hg4 (by simp; omega) (fun k hk => (HO3.out.lt k hk).1))
    obtain ⟨acc4, hacc⟩ : ∃ acc4 : List Int, acc4 = acc2 ++ [wd, hg] ++ two T.size := ⟨_, rfl⟩
    have HO4 : Hid (w4.ownsRow w.heap.size 5 1 (.slice (some ⟨g4, 0, none⟩) (acc2.length + 4) c4) acc4.length (acc4.map (Value.int .u8))) := Lib.hid (by rw [hacc]; simpa [two] using ho4)
    have hl4 : acc4.length = acc2.length + 4 := by rw [hacc]; simp [two]
    have HE4 := Lib.hid hacc
    clear ho4 hg4 HO3 hacc HX3 k0 k1 k2 k3 HB3 hz3' hr1 hr2
    have hz4' : w.heap.size ≤ w4.heap.size := HB4.out.size
    have hl4' : acc4.length ≤ 17 := by omega
    have HL4 := Lib.hid hl4
    clear hl4
    have kc := Lib.run_convert_string_bytes (P := Try.prog) w4 9 93 5 T Try.underlying9 Try.underlying93 Try.underlying5
    have hN4 := Lib.hid (own_next HO4.out (below_bytes w4 5 T))
    have hZ4 : w.heap.size ≤ (Lib.bytesWorld w4 5 T).heap.size := by rw [Lib.bytesWorld_size]; omega
    go_wp2_with (at_builtin; go_must (refine wpList_append_own _ rfl (.tmp 52) (.tmp 54) 93 rfl w.heap.size 5 i0 (.int .u8 0) 1 1 Try.underlying93 hi hz0 hz1 hz2 rfl (by decide) _ _ _ rfl hN4.out ⟨w4.heap.size, 0, none⟩ T.size (grownCap w4 T.size 0 5) (Lib.strCells T) rfl (by rw [strCells_len, Nat.mul_one]) (bytes_news w4 T) (strCells_one T) ?_ ?_ hZ4 ?_))
    · unfold maxLen; omega
    · omega
    intro v5 w5 ho5 hg5 _
    have HB5 := Lib.hid ((HB4.out.trans ((below_bytes w4 5 T).mono hz4')).grown hg5 hZ4 (fun k hk => (HO4.out.lt k hk).1))
    obtain ⟨acc5, hacc⟩ : ∃ acc5 : List Int, acc5 = acc4 ++ bytesI T := ⟨_, rfl⟩
    have HO5 : Hid (w5.ownsRow w.heap.size 5 1 v5 acc5.length (acc5.map (Value.int .u8))) := Lib.hid (by rw [hacc]; exact own_str ho5)
    have hl5 : acc5.length ≤ 1043 := by rw [hacc, List.length_append, bytesI_len]; omega
    have HE5 := Lib.hid hacc
    clear ho5 hg5 hacc HO4 HB4 hl4' hz4' hN4 hZ4 kc HL4
    have hz5' : w.heap.size ≤ w5.heap.size := HB5.out.size
    have hcv := own_string HO5.out
    go_wp2_with fail
    refine (l01Check_any (strOfNums acc5) w5 (by rw [strOfNums_size]; omega)).mono ?_
    rintro e w6 ⟨rfl, rfl⟩
    have hq := chk_lt (bytesN (strOfNums acc5))
    obtain ⟨q, hqe⟩ : ∃ q, q = chk (bytesN (strOfNums acc5)) := ⟨_, rfl⟩
    rw [← hqe] at hq ⊢
    have HQ := Lib.hid hqe
    clear hcv hqe
    have hr1 : IntKind.u8.wrap ((q : Int) % 256) = (q : Int) % 256 := IntWalk.u8_in _ (by omega)
    have hr2 : IntKind.u8.wrap ((q : Int) / 256) = (q : Int) / 256 := IntWalk.u8_in _ (by omega)
    go_wp2_with (at_builtin; go_must (refine wpList_append_own _ rfl (.tmp 59) (.tmp 66) 93 rfl w.heap.size 5 i0 (.int .u8 0) 1 1 Try.underlying93 hi hz0 hz1 hz2 rfl (by decide) _ _ _ rfl (HO5.out.alloc _) ⟨w5.heap.size, 0, none⟩ 2 2 [.int .u8 ((q : Int) % 256), .int .u8 ((q : Int) / 256)] rfl rfl (new2 w5 _ _ 5) (one2 _ _ _ _) ?_ ?_ ?_ ?_))
    · unfold maxLen; omega
    · omega
    · simp; omega
    intro v7 w7 ho7 hg7 _
    have HB7 := Lib.hid ((HB5.out.alloc hz5' _).grown hg7 (by simp; omega) (fun k hk => (HO5.out.lt k hk).1))
    have hcv := own_string (own_two ho7)
    have HF : Hid (strOfNums (acc5 ++ two q) = storeT nm wd hg bs) := Lib.hid (by
      have e6 : acc5 = storeB nm wd hg bs := by
        rw [HE5.out, HE4.out, HE2.out, HE1.out, HT.out, strOfNums_size, bytesI_num (l := packL bs) HP.out]
        rfl
      unfold storeT
      rw [HQ.out, e6])
    clear ho7 hg7 hr1 hr2
    go_wp2
    go_ret
    exact ⟨by rw [HF.out]; rfl, HB7.out⟩
end Go.Proofs.Ytbefcfdmaafghaa
