/- Masses that a source chooses. -/
import Derived.Test.YtbojlgbkkdnegaaSr
import Derived.Test.YtbojlgbkkdnegaaLo
namespace Go.Proofs.Ytbojlgbkkdnegaa
open Ieee Go.RowKit
theorem own_oneI (w : World) (t : TypeId) (x : Int) (B : Nat) (hB : B ≤ w.heap.size) : (w.alloc (.cells #[.int .i64 x] t)).ownsRow B t 1 (.slice (some ⟨w.heap.size, 0, none⟩) 1 1) 1 [.int .i64 x] :=
  ⟨rfl, .inr ⟨w.heap.size, 1, _, rfl, hB, heap_alloc_new w _, Nat.le_refl _, by unfold maxLen; omega, rfl, by simp⟩⟩
theorem own_appI {w : World} {B : Nat} {t : TypeId} {v : Value} {acc : List Int} {x : Int} (h : w.ownsRow B t 1 v (acc.length + 1) (acc.map (Value.int .i64) ++ [.int .i64 x])) :
    w.ownsRow B t 1 v (acc ++ [x]).length ((acc ++ [x]).map (Value.int .i64)) := by
  simpa using h
theorem oneI (x : Int) : ∀ u ∈ [Value.int .i64 x], u.oneCell' = true := by
  intro u hu
  simp at hu
  subst hu
  rfl
/-- masses: the first one greater than nought, none greater than 8 -/
structure Mss (zs : List Int) (n : Nat) : Prop where
  len : zs.length = n
  all : ∀ z ∈ zs, 0 ≤ z ∧ z ≤ 8
  hd : 1 ≤ zs.getD 0 0
set_option maxRecDepth 100000 in
set_option maxHeartbeats 4000000 in
theorem r8Masses_any (A : Option Addr) (n c N : Nat) (bs : List Int) (w : World) (hb : ByteL bs) (hn : bs.length = n) (hm : n ≤ 48) (hN : 1 ≤ N) (hN2 : N ≤ 9) (hr : Rd w w.heap.size A (bs.map (Value.int .u8))) :
    Calls Try.prog 19 #[.slice A n c, .int .i64 N] w fun e w' => (∃ (A' : Option Addr) (c' : Nat) (zs : List Int), e = .returned (.slice A' N c') ∧ Mss zs N ∧ w'.ownsRow w.heap.size 2 1 (.slice A' N c') N (zs.map (Value.int .i64))) ∧ Below w.heap.size w w' := by
  obtain ⟨i0, hi, hz0, hz1, hz2⟩ := info_parts Try.info2
  have Hr := Lib.hid hr
  have HBy := Lib.hid hb
  obtain ⟨wa, hwa⟩ : ∃ wa, wa = w.alloc (.cells #[.slice A n c, .int .i64 0, .int .u64 0] 79) := ⟨_, rfl⟩
  have HSZ : Hid (wa.heap.size = w.heap.size + 1) := Lib.hid (by rw [hwa]; simp)
  have HS0 : Hid (SrcAt wa w.heap.size (.slice A n c) 0 0) := Lib.hid (by rw [hwa]; exact srcNew w _)
  have HBa : Hid (Below w.heap.size w wa) := Lib.hid (by rw [hwa]; exact below_new w _)
  have HP0 := Lib.hid (pick_any A n c w.heap.size bs 0 0 8 wa HBy.out hn hm (by omega) (by omega) (by omega) (by omega) ((Hr.out.below HBa.out).more HBa.out.size) HS0.out)
  clear hr hb
  go_enter Try.func19, Try.ntmps19
  go_wp2_with fail
  refine (l00From_any A n c w).mono ?_
  rintro e w' ⟨rfl, hw'⟩
  rw [← hwa] at hw'
  rw [← hw']
  clear hwa hw' w'
  go_wp2_with fail
  refine HP0.out.mono ?_
  rintro e w1 ⟨⟨z0, rfl, z01, z02⟩, ⟨s1, hs1⟩, hg1, hsz1⟩
  have HS1 := Lib.hid hs1
  have HB1 := Lib.hid (HBa.out.grown hg1 HBa.out.size (fun q hq => by injection hq with hq; omega))
  have hw1 : w.heap.size + 1 ≤ w1.heap.size := by have := HSZ.out; omega
  have hwr : IntKind.i64.wrap (1 + z0) = 1 + z0 := by rw [IntKind.wrap_i64]; omega
  clear hs1 hg1 hsz1 HBa HP0 HS0 HSZ
  have HN := Lib.hid (own_oneI w1 2 (1 + z0) (w.heap.size + 1) hw1)
  have HS2 := Lib.hid (Blk.next HS1.out (below_new w1 (.cells #[.int .i64 (1 + z0)] 2)))
  have HB2 := Lib.hid (bthen HB1.out (below_new w1 (.cells #[.int .i64 (1 + z0)] 2)))
  go_wp2_with fail
  go_loopw [1, 6] (fun i v wr => ∃ (k : Nat) (zs : List Int) (s : Int), 1 ≤ k ∧ k ≤ N ∧ i = .int .i64 ((N : Int) + 1 - (k : Int)) ∧ Hid (Mss zs k) ∧ wr.ownsRow (w.heap.size + 1) 2 1 v zs.length (zs.map (Value.int .i64)) ∧ SrcAt wr w.heap.size (.slice A n c) k s ∧ w.heap.size < wr.heap.size ∧ Below w.heap.size w wr) (fun i _ _ => (intOf i).toNat)
  case atStart => exact ⟨1, [1 + z0], s1, by omega, by omega, by congr 1; omega, Lib.hid ⟨rfl, fun z hz => by simp at hz; omega, by show 1 ≤ 1 + z0; omega⟩, HN.out, HS2.out, by simp; omega, HB2.out⟩
  case round =>
    obtain ⟨k, zs, s, hk1, hk, rfl, HL, hv, hs, hz, hb⟩ := hrel
    have HV := Lib.hid hv
    have HB := Lib.hid hb
    have HS := Lib.hid hs
    clear hv hb hs
    obtain ⟨Av, cv, rfl, hrv⟩ := shapeOf HV.out
    clear hrv
    by_cases hlt : k < N
    · have h0 : (1 : Int) < (N : Int) + 1 - (k : Int) := by omega
      have HP := Lib.hid (fun W (h : W = wr) => pick_any A n c w.heap.size bs k s 9 W HBy.out hn hm (by omega) (by omega) (by omega) (by omega) (by subst h; exact (Hr.out.below HB.out).more HB.out.size) (by subst h; exact HS.out))
      go_wp2_with fail
      refine (HP.out _ rfl).mono ?_
      rintro e w2 ⟨⟨z, rfl, z1, z2⟩, ⟨s2, hs2⟩, hg2, hsz⟩
      have hz2' : w.heap.size < w2.heap.size := by omega
      have HS2 := Lib.hid hs2
      have HV2 := Lib.hid (HV.out.kept hg2 (.inr (fun he => by have := (HV.out.lt _ he).1; omega)))
      have HB2 := Lib.hid (HB.out.grown hg2 HB.out.size (fun q hq => by injection hq with hq; omega))
      have hl9 : zs.length ≤ 9 := by rw [HL.out.len]; omega
      clear hs2 hg2 hsz HV HB HS HP
      go_wp2_with (at_builtin; go_must (refine wpList_append_own_at _ rfl (.tmp 17) (.tmp 20) 32 rfl (w.heap.size + 1) 2 i0 (.int .i64 0) 1 8 Try.underlying32 hi hz0 hz1 hz2 rfl (by decide) _ _ _ rfl (HV2.out.alloc _) ⟨w2.heap.size, 0, none⟩ 1 1 [.int .i64 z] rfl rfl (newOne w2 _ 2) (oneI _) ?_ ?_ ?_ ?_))
      · unfold maxLen; omega
      · omega
      · simp; omega
      intro v' w7 hown' hgrow _ hat'
      have HV7 := Lib.hid (own_appI hown')
      have HB7 := Lib.hid ((HB2.out.alloc HB2.out.size (.cells #[.int .i64 z] 2)).grown hgrow (by simp; omega) (fun q hq => Nat.le_of_succ_le (HV2.out.lt q hq).1))
      have HS7 := Lib.hid (Blk.grown (Blk.next HS2.out (below_new w2 (.cells #[.int .i64 z] 2))) hgrow (fun he => by have := (HV2.out.lt _ he.symm).1; omega))
      have hz7 : w.heap.size < w7.heap.size := by have := hgrow.size; simp at this; omega
      have HL7 : Hid (Mss (zs ++ [z]) (k + 1)) := Lib.hid (by
        obtain ⟨a1, a2, a3⟩ := HL.out
        refine ⟨by rw [List.length_append, a1]; rfl, fun y hy => ?_, ?_⟩
        · rcases List.mem_append.1 hy with hy | hy
          · exact a2 y hy
          · simp at hy; omega
        · cases zs with
          | nil => simp at a1; omega
          | cons y ys => exact a3)
      clear hown' hgrow hat'
      go_wp2
      go_roundw
      case rel =>
        exact ⟨k + 1, zs ++ [z], s2, by omega, by omega, by first | go_num | (congr 1; omega), HL7, HV7.out, HS7.out, hz7, HB7.out⟩
      case measure => simp [intOf]; omega
    · obtain rfl : k = N := by omega
      have HF := Lib.hid (own_base (b' := w.heap.size) HV.out (by omega))
      have HL8 := Lib.hid HL.out.len
      rw [HL8.out] at HF
      go_wp2
      go_ret
      rw [HL8.out]
      exact ⟨⟨Av, cv, zs, rfl, HL.out, HF.out⟩, HB.out⟩
end Go.Proofs.Ytbojlgbkkdnegaa
