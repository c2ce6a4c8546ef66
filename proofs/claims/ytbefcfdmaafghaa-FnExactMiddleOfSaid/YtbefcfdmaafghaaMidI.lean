/- MiddleOf, the program's way. -/
import Derived.Test.YtbefcfdmaafghaaMidP
import Derived.Test.YtbefcfdmaafghaaEmpty
import Derived.Deep.AppendLies
import Derived.Deep.DeepCutAuto
import Derived.Deep.RegionLaw
namespace Go.Proofs.Ytbefcfdmaafghaa
open Ieee Go.RowKit
/-- a place as a value -/
def cv (p : Nat × Nat) : Value := .complex .f32 p.1 p.2
theorem Try.info82 : (Try.prog.info? 82).map (fun i => (i.zero, i.size, i.bytes)) = some (some (.complex .f32 0 0), 1, 8) := by kernel_rfl
theorem own_appC {w : World} {B : Nat} {t : TypeId} {v : Value} {acc : List (Nat × Nat)} {x : Nat × Nat} (h : w.ownsRow B t 1 v (acc.length + 1) (acc.map cv ++ [.complex .f32 x.1 x.2])) :
    w.ownsRow B t 1 v (acc ++ [x]).length ((acc ++ [x]).map cv) := by
  simpa [cv] using h
theorem newOneC (w : World) (a : Value) (t : TypeId) : ∀ j u, [a][j]? = some u → (w.alloc (.cells #[a] t)).cell? ((⟨w.heap.size, 0, none⟩ : Addr).add j) = some u := by
  intro j u hu
  rcases j with _ | j
  · simp at hu; subst hu
    show (w.alloc (.cells #[a] t)).cell? ⟨w.heap.size, 0, none⟩ = some a
    simp
  · simp at hu
theorem oneC (x y : Nat) : ∀ u ∈ [Value.complex .f32 x y], u.oneCell' = true := by
  intro u hu
  simp at hu
  subst hu
  rfl
theorem own_drC {w w' : World} {base : Nat} {e : TypeId} {size : Nat} {v : Value} {n : Nat} {xs : List Value} (h : w.ownsRow base e size v n xs) (hq : ∃ m, w' = w.drewN m) : w'.ownsRow base e size v n xs := by
  obtain ⟨m, rfl⟩ := hq
  exact h
set_option maxHeartbeats 4000000 in
set_option maxRecDepth 100000 in
theorem places_any (wd hg : Int) (A : Option Addr) (n c : Nat) (bs : List Bool) (w : World) (hn : bs.length = n) (h1 : 1 ≤ wd) (h2 : wd ≤ 16) (h3 : 1 ≤ hg) (h4 : hg ≤ 16) (h5 : wd * hg = bs.length) (hr : Rd w w.heap.size A (bs.map Value.bool)) :
    Calls Try.prog 116 #[.agg #[.int .i64 wd, .int .i64 hg, .slice A n c]] w fun e w' => (∃ v, e = .returned v ∧ w'.ownsRow w.heap.size 82 1 v (fulP wd bs bs.length).length ((fulP wd bs bs.length).map cv)) ∧ Below w.heap.size w w' := by
  subst hn
  obtain ⟨q1, q2⟩ := prod_bd h1 h2 h3 h4
  have h256 : bs.length ≤ 256 := by omega
  have hwd : ¬ wd = 0 := by omega
  obtain ⟨i0, hi, hz0, hz1, hz2⟩ := info_parts Try.info82
  have hu120 : Try.prog.underlying 120 = some (.slice 82) := by kernel_rfl
  have hcv := fun (z : Int) (W : World) => run_convert_int_float (P := Try.prog) W 2 43 .i64 .f32 z (by rw [Try.underlying2]; rfl) Try.und43
  have R0 := Lib.hid (hr.next (below_new w (.cells #[.int .i64 wd, .int .i64 hg, .slice A bs.length c] 27)))
  have HN : Hid (((w.alloc (.cells #[.int .i64 wd, .int .i64 hg, .slice A bs.length c] 27)).alloc (.cells #[] 82)).ownsRow (w.heap.size + 1) 82 1 (.slice (some ⟨w.heap.size + 1, 0, none⟩) 0 0) 0 []) := Lib.hid (by
    have h := World.ownsRow_made (base := w.heap.size + 1) (e := 82) (size := 1) (w.alloc (.cells #[.int .i64 wd, .int .i64 hg, .slice A bs.length c] 27)) #[] 0 (by simp) (Nat.zero_le _) rfl
    simpa using h)
  have Hr := Lib.hid hr; clear hr h5
  go_enter Try.func116, Try.ntmps116
  go_wp2_with fail
  go_loopw [3, 10] (fun s i wr => ∃ k : Nat, k ≤ bs.length ∧ i = .int .i64 k ∧ wr.ownsRow (w.heap.size + 1) 82 1 s (fulP wd bs k).length ((fulP wd bs k).map cv) ∧ FBox wr w.heap.size wd hg (.slice A bs.length c) ∧ w.heap.size < wr.heap.size ∧ Below w.heap.size w wr) (fun _ i _ => bs.length - (intOf i).toNat)
  case atStart =>
    refine ⟨0, Nat.zero_le _, rfl, ?_, ?_, by simp; omega, ?_⟩
    · exact HN.out
    · exact (FBox.new w 27 wd hg (.slice A bs.length c)).below (below_new _ _) (by simp)
    · exact (below_new w _).trans ((below_new _ _).mono (by simp))
  case round =>
    obtain ⟨k, hk, rfl, ho, hx, hz, hb⟩ := hrel
    have KX := Lib.hid hx
    obtain ⟨k0, k1, k2⟩ := hx
    have HB := Lib.hid hb; clear hb
    have HO := Lib.hid ho; clear ho
    have R1 := Lib.hid ((Hr.out.below HB.out).more HB.out.size)
    by_cases hlt : k < bs.length
    · obtain ⟨ad, rfl, _, hcell⟩ := R1.out.at_ (k := k) (by simpa using hlt)
      rw [List.getElem_map] at hcell
      cases hbk : bs[k]
      · rw [hbk] at hcell
        have HS := Lib.hid (fulP_no (wd := wd) hlt hbk)
        clear hbk
        go_wp2
        go_roundw
        case rel => exact ⟨k + 1, by omega, by go_num, by rw [HS.out]; exact HO.out, KX.out, hz, HB.out⟩
        case measure => simp [intOf]; omega
      · rw [hbk] at hcell
        have HS := Lib.hid (fulP_yes (wd := wd) hlt hbk)
        have HL := Lib.hid (fulP_len (wd := wd) (bs := bs) hk)
        have hcl := cnt_le (bs.take k)
        rw [List.length_take] at hcl
        clear hbk
        go_wp2_with fail
        have hl256 : (fulP wd bs k).length ≤ 256 := by rw [HL.out]; omega
        have HE : Hid (Value.complex .f32 (floatOfInt .f32 ((k : Int).tmod wd)) (floatOfInt .f32 (IntKind.i64.wrap ((k : Int) / wd))) = .complex .f32 (plc wd k).1 (plc wd k).2) := Lib.hid (by
          have e1 : (k : Int).tmod wd = (k : Int) % wd := Int.tmod_eq_emod_of_nonneg (by omega)
          have e2 : 0 ≤ (k : Int) / wd := Int.ediv_nonneg (by omega) (by omega)
          have e3 : (k : Int) / wd ≤ (k : Int) := Int.ediv_le_self _ (by omega)
          have e4 : IntKind.i64.wrap ((k : Int) / wd) = (k : Int) / wd := by rw [IntKind.wrap_i64]; omega
          rw [e1, e4]; rfl)
        go_region_law (refine step_append_lies _ rfl (.tmp 16) (.tmp 28) 120 rfl (w.heap.size + 1) 82 i0 (.complex .f32 0 0) 1 8 hu120 hi hz0 hz1 hz2 rfl (by decide) _ (fulP wd bs k).length _ (by simp [Act.eval]) (own_drC (HO.out.alloc _) ⟨1, rfl⟩) ⟨wr.heap.size, 0, none⟩ 1 1 [.complex .f32 (floatOfInt .f32 ((k : Int).tmod wd)) (floatOfInt .f32 (IntKind.i64.wrap ((k : Int) / wd)))] (by simp [Act.eval]) rfl (fun j u hu => newOneC wr _ 82 j u hu) (oneC _ _) (by decide) (by unfold maxLen; omega) (by omega) (by simp; omega) _ rfl ?_; intro g4 c4 w7 hown' hgrow hat' _)
        all_goals
          rw [HE.out] at hown'
          have HV7 := Lib.hid (own_appC hown')
          have HB7 := Lib.hid ((below_drewN (HB.out.alloc HB.out.size (.cells #[.complex .f32 (floatOfInt .f32 ((k : Int).tmod wd)) (floatOfInt .f32 (IntKind.i64.wrap ((k : Int) / wd)))] 82)) 1).grown hgrow (by simp; omega) (fun q hq => Nat.le_of_succ_le (HO.out.lt q hq).1))
          have X7 := Lib.hid (FBox.grown (show FBox ((wr.alloc (.cells #[.complex .f32 (floatOfInt .f32 ((k : Int).tmod wd)) (floatOfInt .f32 (IntKind.i64.wrap ((k : Int) / wd)))] 82)).drewN 1) w.heap.size wd hg (.slice (some ad) bs.length c) from KX.out.below (below_drewN (below_new wr _) 1) hz) hgrow (by simp; omega) (fun he => by have := (HO.out.lt _ he.symm).1; omega))
          have z7 : w.heap.size < w7.heap.size := by have := hgrow.size; simp at this; omega
          clear hown' hgrow hat'
          go_wp2
          go_roundw
          case rel => exact ⟨k + 1, by omega, by go_num, by rw [HS.out]; exact HV7.out, X7.out, z7, HB7.out⟩
          case measure => simp [intOf]; omega
    · have hke : k = bs.length := by omega
      subst hke
      have HF := Lib.hid (own_base (b' := w.heap.size) HO.out (by omega))
      clear HO
      go_wp2
      go_ret
      exact ⟨⟨_, rfl, HF.out⟩, HB.out⟩
/-- an owned row reads as its values -/
theorem shapeC {w : World} {B : Nat} {e : TypeId} {v : Value} {n : Nat} {xs : List Value} (h : w.ownsRow B e 1 v n xs) : ∃ A c, v = .slice A n c ∧ Rd w w.heap.size A xs := by
  have h0 := h
  rcases h.2 with ⟨rfl, rfl⟩ | ⟨g, cap, cur, rfl, _⟩
  · exact ⟨none, 0, rfl, Rd.own h0⟩
  · exact ⟨_, cap, rfl, Rd.own h0⟩
theorem take_succP {P : List (Nat × Nat)} {k : Nat} (h : k < P.length) : P.take (k + 1) = P.take k ++ [P[k]] := List.take_succ_eq_append_getElem h
set_option maxHeartbeats 2000000 in
set_option maxRecDepth 100000 in
theorem mean_any (A : Option Addr) (n c : Nat) (P : List (Nat × Nat)) (w : World) (hn : P.length = n) (h0 : 0 < n) (hok : OkP P) (hr : Rd w w.heap.size A (P.map cv)) :
    Calls Try.prog 117 #[.slice A n c] w fun e w' => e = .returned (.complex .f32 (mRe P) (mIm P)) ∧ w' = w := by
  subst hn
  have h256 := hok.2
  have hcv := fun (z : Int) (W : World) => run_convert_int_float (P := Try.prog) W 3 43 .i64 .f32 z (by rw [Try.underlying3]; rfl) Try.und43
  have g1 := run_num (P := Try.prog) (hok.quoRe h0).1
  have g2 := run_num (P := Try.prog) (hok.quoIm h0).1
  unfold f32i at g1 g2
  have HK := Lib.hid hok; clear hok
  have Hr := Lib.hid hr; clear hr
  go_enter Try.func117, Try.ntmps117
  go_wp2_with fail
  go_loop [3, 9] (fun s i => ∃ k : Nat, k ≤ P.length ∧ i = .int .i64 k ∧ s = .complex .f32 (sRe (P.take k)) (sIm (P.take k))) (fun _ i => P.length - (intOf i).toNat)
  case atStart => exact ⟨0, Nat.zero_le _, rfl, rfl⟩
  case round =>
    obtain ⟨k, hk, rfl, rfl⟩ := hrel
    by_cases hlt : k < P.length
    · obtain ⟨ad, rfl, _, hcell⟩ := Hr.out.at_ (k := k) (by simpa using hlt)
      rw [List.getElem_map] at hcell
      have HT := Lib.hid (take_succP hlt)
      have hok2 := HK.out.take (k + 1)
      rw [HT.out] at hok2
      obtain ⟨p, hp⟩ : ∃ p, p = P[k] := ⟨_, rfl⟩
      rw [← hp] at hcell HT hok2
      unfold cv at hcell
      have HC := Lib.hid (fun (W : World) => addC_any _ _ _ _ _ _ W hok2.addRe hok2.addIm)
      clear hok2 hp
      go_wp2_with fail
      refine (HC.out _).mono ?_
      rintro e w' ⟨rfl, rfl⟩
      go_wp2
      go_round
      case rel => exact ⟨k + 1, by omega, by go_num, by rw [HT.out]⟩
      case measure => simp [intOf]; omega
    · have hke : k = P.length := by omega
      subst hke
      rw [List.take_of_length_le (Nat.le_refl _)]
      go_wp2
      go_ret
      exact ⟨rfl, rfl⟩
def midRe (wd : Int) (bs : List Bool) : Nat := mRe (fulP wd bs bs.length)
def midIm (wd : Int) (bs : List Bool) : Nat := mIm (fulP wd bs bs.length)
def midVar (wd : Int) (bs : List Bool) : Nat := varF (fulP wd bs bs.length)
/-- the answer: the middle, the spread but for a NaN's bits, and whether there is one -/
def midB (wd hg : Int) (bs : List Bool) : Bool := vF wd hg bs.length && decide (0 < cnt bs)
def MidSays (wd hg : Int) (bs : List Bool) (e : Ending) : Prop :=
  if midB wd hg bs = true then ∃ r, e = .returned (.tuple #[.complex .f32 (midRe wd bs) (midIm wd bs), .float .f32 r, .bool true]) ∧ Sim .f32 r (rootC (midVar wd bs))
  else e = .returned (.tuple #[.complex .f32 0 0, .float .f32 0, .bool false])
end Go.Proofs.Ytbefcfdmaafghaa
