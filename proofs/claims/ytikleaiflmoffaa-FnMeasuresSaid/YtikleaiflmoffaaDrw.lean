/- Points that a source chooses. -/
import Derived.Test.YtikleaiflmoffaaAre
import Derived.OwnWalk
namespace Go.Proofs.Ytikleaiflmoffaa
open Ieee Go.RowKit
theorem Try.info43 : (Try.prog.info? 43).map (fun i => (i.zero, i.size, i.bytes)) = some (some (.complex .f32 0 0), 1, 8) := by kernel_rfl
theorem Try.under25' : Try.prog.underlying 25 = some (.slice 43) := by kernel_rfl
theorem e8_is {z : Int} (h1 : -16 ≤ z) (h2 : z ≤ 16) : floatBits .quo .f32 (floatOfInt .f32 z) 1090519040 = some (eZ z) := fx_div8 (a := z) (k := 0) (by omega) (by omega)
theorem oneC (v : Int × Int) : ∀ u ∈ [cvP v], u.oneCell' = true := by
  intro u hu
  simp at hu
  subst hu
  rfl
theorem own_appP {w : World} {B : Nat} {t : TypeId} {v : Value} {acc : List (Int × Int)} {x : Int × Int} (h : w.ownsRow B t 1 v (acc.length + 1) (acc.map cvP ++ [cvP x])) :
    w.ownsRow B t 1 v (acc ++ [x]).length ((acc ++ [x]).map cvP) := by
  simpa using h
set_option maxRecDepth 100000 in
set_option maxHeartbeats 1000000 in
theorem drawPoint_any (A : Option Addr) (n c g : Nat) (bs : List Int) (k s : Int) (w : World) (hb : ByteL bs) (hn : bs.length = n) (hm : n ≤ 48) (hk : 0 ≤ k) (hk2 : k ≤ 1000) (hr : Rd w g A (bs.map (Value.int .u8))) (hs : SrcAt w g (.slice A n c) k s) :
    Calls Try.prog 18 #[.pointer (some ⟨g, 0, none⟩)] w fun e w' => (∃ p, e = .returned (cvP p) ∧ Pt p) ∧ (∃ s', SrcAt w' g (.slice A n c) (k + 2) s') ∧ w.grownBy w' (some g) ∧ w'.heap.size = w.heap.size := by
  have hgw : g < w.heap.size := Blk.lt hs
  have H1 := Lib.hid (pick_any A n c g bs k s 33 w hb hn hm hk (by omega) (by omega) (by omega) (hr.more (by omega)) hs)
  have Hr := Lib.hid hr
  have hcv := fun (z : Int) (W : World) => run_convert_int_float (P := Try.prog) W 2 27 .i64 .f32 z (by rw [Try.underlying2]; rfl) Try.und27
  have HBy := Lib.hid hb
  clear hr hs hb
  go_enter Try.func18, Try.ntmps18
  go_wp2_with fail
  refine H1.out.mono ?_
  rintro e w1 ⟨⟨z, rfl, z1, z2⟩, ⟨s1, hs1⟩, hg1, hsz1⟩
  have ga := run_num (P := Try.prog) (e8_is (z := z - 16) (by omega) (by omega))
  have hB1 : Below g w w1 := (Below.refl _ _).grown hg1 (by omega) (fun q hq => by injection hq with hq; omega)
  have HG1 := Lib.hid hg1
  have H2 := Lib.hid (pick_any A n c g bs (k + 1) s1 33 w1 HBy.out hn hm (by omega) (by omega) (by omega) (by omega) ((Hr.out.below hB1).more (by omega)) hs1)
  clear hg1 hs1 hB1
  go_wp2_with fail
  refine H2.out.mono ?_
  rintro e w2 ⟨⟨y, rfl, y1, y2⟩, ⟨s2, hs2⟩, hg2, hsz2⟩
  have gb := run_num (P := Try.prog) (e8_is (z := y - 16) (by omega) (by omega))
  have HS2 := Lib.hid hs2
  have HG2 := Lib.hid (World.grownBy.trans' HG1.out hg2)
  clear hs2 hg2
  go_wp2
  go_ret
  exact ⟨⟨(z - 16, y - 16), rfl, ⟨by omega, by omega⟩, by omega, by omega⟩, ⟨s2, by rw [show k + 2 = k + 1 + 1 by omega]; exact HS2.out⟩, HG2.out, by omega⟩
set_option maxRecDepth 100000 in
set_option maxHeartbeats 4000000 in
theorem r8Points_any (A : Option Addr) (n c N : Nat) (bs : List Int) (w : World) (hb : ByteL bs) (hn : bs.length = n) (hm : n ≤ 48) (hN : 1 ≤ N) (hN2 : N ≤ 100) (hr : Rd w w.heap.size A (bs.map (Value.int .u8))) :
    Calls Try.prog 6 #[.slice A n c, .int .i64 N] w fun e w' => (∃ (g c' : Nat) (P : List (Int × Int)), e = .returned (.slice (some ⟨g, 0, none⟩) N c') ∧ Pts P N ∧ N ≤ c' ∧ w'.ownsRow w.heap.size 43 1 (.slice (some ⟨g, 0, none⟩) N c') N (P.map cvP)) ∧ Below w.heap.size w w' := by
  obtain ⟨i0, hi, hz0, hz1, hz2⟩ := info_parts Try.info43
  have Hr := Lib.hid hr
  have HBy := Lib.hid hb
  have HN : Hid (((w.alloc (.cells #[.slice A n c, .int .i64 0, .int .u64 0] 64)).alloc (.cells #[] 43)).ownsRow (w.heap.size + 1) 43 1 (.slice (some ⟨w.heap.size + 1, 0, none⟩) 0 0) 0 []) := Lib.hid (by
    have h := World.ownsRow_made (base := w.heap.size + 1) (e := 43) (size := 1) (w.alloc (.cells #[.slice A n c, .int .i64 0, .int .u64 0] 64)) #[] 0 (by simp) (Nat.zero_le _) rfl
    simpa using h)
  have HS0 : Hid (SrcAt ((w.alloc (.cells #[.slice A n c, .int .i64 0, .int .u64 0] 64)).alloc (.cells #[] 43)) w.heap.size (.slice A n c) 0 0) := Lib.hid (Blk.next (srcNew w _) (below_new _ _))
  clear hr hb
  go_enter Try.func6, Try.ntmps6
  go_wp2_with fail
  refine (l00From_any A n c w).mono ?_
  rintro e w' ⟨rfl, rfl⟩
  go_wp2_with fail
  go_loopw [1, 6] (fun i v wr => ∃ (k : Nat) (P : List (Int × Int)) (s : Int), k ≤ N ∧ i = .int .i64 ((N : Int) - (k : Int)) ∧ Hid (Pts P k) ∧ wr.ownsRow (w.heap.size + 1) 43 1 v P.length (P.map cvP) ∧ SrcAt wr w.heap.size (.slice A n c) (2 * (k : Int)) s ∧ w.heap.size < wr.heap.size ∧ Below w.heap.size w wr ∧ Hid (∃ g cp, v = .slice (some ⟨g, 0, none⟩) P.length cp)) (fun i _ _ => (intOf i).toNat)
  case atStart => exact ⟨0, [], 0, by omega, by congr 1 <;> omega, Lib.hid ⟨rfl, fun z hz => by cases hz⟩, HN.out, HS0.out, by simp; omega, (below_new w _).trans ((below_new _ _).mono (by simp)), Lib.hid ⟨_, _, rfl⟩⟩
  case round =>
    obtain ⟨k, P, s, hk, rfl, HL, hv, hs, hz, hb, HSH⟩ := hrel
    have HV := Lib.hid hv
    have HB := Lib.hid hb
    have HS := Lib.hid hs
    clear hv hb hs
    obtain ⟨gv, cv, hvv⟩ := HSH.out
    subst hvv
    by_cases hlt : k < N
    · have h0 : (0 : Int) < (N : Int) - (k : Int) := by omega
      have HP := Lib.hid (fun W (h : W = wr) => drawPoint_any A n c w.heap.size bs (2 * (k : Int)) s W HBy.out hn hm (by omega) (by omega) (by subst h; exact Hr.out.below HB.out) (by subst h; exact HS.out))
      go_wp2_with fail
      refine (HP.out _ rfl).mono ?_
      rintro e w2 ⟨⟨p, rfl, hpt⟩, ⟨s2, hs2⟩, hg2, hsz⟩
      have hz2' : w.heap.size < w2.heap.size := by omega
      have HS2 := Lib.hid hs2
      have HV2 := Lib.hid (HV.out.kept hg2 (.inr (fun he => by have := (HV.out.lt _ he).1; omega)))
      have HB2 := Lib.hid (HB.out.grown hg2 HB.out.size (fun q hq => by injection hq with hq; omega))
      have hl8 : P.length ≤ 100 := by rw [HL.out.len]; omega
      have HPT := Lib.hid hpt
      have HONE := oneC p
      have HPV0 : Hid (Value.complex .f32 (eZ p.1) (eZ p.2) = cvP p) := Lib.hid rfl
      unfold cvP at HONE ⊢
      obtain ⟨px, hpx⟩ : ∃ v, v = eZ p.1 := ⟨_, rfl⟩
      obtain ⟨py, hpy⟩ : ∃ v, v = eZ p.2 := ⟨_, rfl⟩
      rw [← hpx, ← hpy] at HONE HPV0 ⊢
      have HPV := HPV0
      clear hs2 hg2 hsz HV HB HS HP hpt hpx hpy
      go_wp2_with (at_builtin; go_must (refine wpList_append_own_at _ rfl (.tmp 14) (.tmp 17) 25 rfl (w.heap.size + 1) 43 i0 (.complex .f32 0 0) 1 8 Try.under25' hi hz0 hz1 hz2 rfl (by decide) _ _ _ rfl (HV2.out.alloc _) ⟨w2.heap.size, 0, none⟩ 1 1 [.complex .f32 px py] rfl rfl (newOne w2 _ 43) HONE ?_ ?_ ?_ ?_))
      · unfold maxLen; omega
      · omega
      · simp; omega
      intro v' w7 hown' hgrow _ hat'
      rw [HPV.out] at hown'
      have HV7 := Lib.hid (own_appP hown')
      have HB7 := Lib.hid ((HB2.out.alloc HB2.out.size (.cells #[.complex .f32 px py] 43)).grown hgrow (by simp; omega) (fun q hq => Nat.le_of_succ_le (HV2.out.lt q hq).1))
      have HS7 := Lib.hid (Blk.grown (Blk.next HS2.out (below_new w2 (.cells #[.complex .f32 px py] 43))) hgrow (fun he => by have := (HV2.out.lt _ he.symm).1; omega))
      have hz7 : w.heap.size < w7.heap.size := by have := hgrow.size; simp at this; omega
      have HL7 : Hid (Pts (P ++ [p]) (k + 1)) := Lib.hid ⟨by rw [List.length_append, HL.out.len]; rfl, fun y hy => by
        rcases List.mem_append.1 hy with hy | hy
        · exact HL.out.pt y hy
        · simp at hy; rw [hy]; exact HPT.out⟩
      have HSH7 : Hid (∃ g cp, v' = .slice (some ⟨g, 0, none⟩) (P ++ [p]).length cp) := Lib.hid (by
        rcases HV7.out.2 with ⟨hv, h0⟩ | ⟨g, cap, cur, hv, _⟩
        · simp at h0
        · exact ⟨g, cap, hv⟩)
      clear hown' hgrow hat' HV2 HB2 HS2
      go_wp2
      go_roundw
      case rel => exact ⟨k + 1, P ++ [p], s2, by omega, by first | go_num | (congr 1; omega), HL7, HV7.out, by rw [show 2 * ((k + 1 : Nat) : Int) = 2 * (k : Int) + 2 by omega]; exact HS7.out, hz7, HB7.out, HSH7⟩
      case measure => simp [intOf]; omega
    · obtain rfl : k = N := by omega
      have HF := Lib.hid (own_base (b' := w.heap.size) HV.out (by omega))
      have HL8 := Lib.hid HL.out.len
      rw [HL8.out] at HF ⊢
      have hcap : k ≤ cv := by
        rcases HF.out.2 with ⟨hv, h0⟩ | ⟨g', cap', cur, hv, _, _, h1, _⟩
        · cases hv
        · injection hv with _ _ e3; omega
      go_wp2
      go_ret
      exact ⟨⟨gv, cv, P, rfl, HL.out, hcap, HF.out⟩, HB.out⟩
end Go.Proofs.Ytikleaiflmoffaa
