/- Logarithms of lists of float32s, both ways. -/
import Derived.Test.YtcpimcjmckljfaaRoots
import Derived.Test.YtcpimcjmckljfaaMasses
namespace Go.Proofs.Ytcpimcjmckljfaa
open Ieee Go.RowKit
/-- a list: not too long, all finite -/
def listB (xs : List Nat) : Bool := decide (xs.length ≤ 256) && finL xs
theorem listB_len {xs : List Nat} (h : listB xs = true) : xs.length ≤ 256 ∧ finL xs = true := by
  unfold listB at h
  rw [Bool.and_eq_true, decide_eq_true_eq] at h
  exact h
theorem finL_mem {xs : List Nat} (h : finL xs = true) : ∀ x ∈ xs, finB x = true := by
  intro x hx
  unfold finL at h
  have h2 : (xs.any fun x => !finB x) = false := by simpa using h
  rw [List.any_eq_false] at h2
  have := h2 x hx
  simpa using this
theorem order_some (k : FloatKind) {x y : Nat} (hx : nanF k x = false) (hy : nanF k y = false) : ∃ o, k.format.order x y = some o := by
  unfold nanF at hx hy
  unfold Format.order
  cases h1 : k.format.read x with
  | nan s t => rw [h1] at hx; cases hx
  | infinity s => cases h2 : k.format.read y with
    | nan s t => rw [h2] at hy; cases hy
    | infinity s => exact ⟨_, rfl⟩
    | number s m p => exact ⟨_, rfl⟩
  | number s m p => cases h2 : k.format.read y with
    | nan s t => rw [h2] at hy; cases hy
    | infinity s => exact ⟨_, rfl⟩
    | number s m p => exact ⟨_, rfl⟩
/-- greater than nought -/
def gtB (x : Nat) : Bool := FloatKind.f32.format.order x 0 == some .gt
theorem gtB_t {x : Nat} (h : gtB x = true) : FloatKind.f32.format.order x 0 = some .gt := by
  unfold gtB at h
  exact eq_of_beq h
theorem gtB_f {x : Nat} (hf : finB x = true) (h : gtB x = false) : FloatKind.f32.format.order x 0 = some .lt ∨ FloatKind.f32.format.order x 0 = some .eq := by
  obtain ⟨o, ho⟩ := order_some .f32 (fin_num hf) num_zero
  unfold gtB at h
  rw [ho] at h ⊢
  cases o
  · exact .inl rfl
  · exact .inr rfl
  · cases h
def logOk (xs : List Nat) : Bool := listB xs && !(xs.any fun x => !gtB x)
def logsR (xs : List Nat) : List Nat := if logOk xs = true then xs.map logC else []
/-- a list of floats of the call's own, and whether it is told -/
def GivesF (B : Nat) (ls : List Nat) (ok : Bool) (e : Ending) (w' : World) : Prop := ∃ A c, e = .returned (.tuple #[.slice A ls.length c, .bool ok]) ∧ w'.ownsRow B 23 1 (.slice A ls.length c) ls.length (ls.map (Value.float .f32))
set_option maxHeartbeats 1000000 in
theorem isList_any (A : Option Addr) (n c : Nat) (xs : List Nat) (w : World) (hn : xs.length = n) (hm : n ≤ 1048576) (hr : Rd w w.heap.size A (xs.map (Value.float .f32))) :
    Calls Try.prog 54 #[.slice A n c] w fun e w' => e = .returned (.bool (listB xs)) ∧ Below w.heap.size w w' := by
  by_cases h2 : n ≤ 256
  · have hl : listB xs = finL xs := by unfold listB; rw [show decide (xs.length ≤ 256) = true by rw [decide_eq_true_eq]; omega]; rfl
    have HC := Lib.hid (areFinite_any A n c xs w hn (by omega) hr)
    rw [hl]
    clear hl hr hn
    go_enter Try.func54, Try.ntmps54
    go_wp2_with fail
    refine HC.out.mono ?_
    rintro e w' ⟨rfl, hb⟩
    have HB := Lib.hid hb; clear hb
    go_wp2
    go_ret
    exact ⟨rfl, HB.out⟩
  · have hl : listB xs = false := by unfold listB; rw [show decide (xs.length ≤ 256) = false by rw [decide_eq_false_iff_not]; omega]; rfl
    rw [hl]
    clear hl hr hn
    go_enter Try.func54, Try.ntmps54
    go_wp2
    go_ret
    exact ⟨rfl, Below.refl _ _⟩
set_option maxHeartbeats 1000000 in
theorem l06List_any (A : Option Addr) (n c : Nat) (xs : List Nat) (w : World) (hn : xs.length = n) (hm : n ≤ 1048576) (hr : Rd w w.heap.size A (xs.map (Value.float .f32))) :
    Calls Try.prog 52 #[.slice A n c] w fun e w' => e = .returned (.bool (listB xs)) ∧ ∃ m, w' = w.drewN m := by
  by_cases h2 : n ≤ 256
  · have hl : listB xs = finL xs := by unfold listB; rw [show decide (xs.length ≤ 256) = true by rw [decide_eq_true_eq]; omega]; rfl
    have HC := Lib.hid (l02Finite_any A n c xs w hn (by omega) hr)
    rw [hl]
    clear hl hr hn
    go_enter Try.func52, Try.ntmps52
    go_wp2_with fail
    refine HC.out.mono ?_
    rintro e w' ⟨rfl, m, rfl⟩
    go_wp2
    go_ret
    exact ⟨rfl, _, rfl⟩
  · have hl : listB xs = false := by unfold listB; rw [show decide (xs.length ≤ 256) = false by rw [decide_eq_false_iff_not]; omega]; rfl
    rw [hl]
    clear hl hr hn
    go_enter Try.func52, Try.ntmps52
    go_wp2
    go_ret
    exact ⟨rfl, 0, rfl⟩
theorem logsR_len (xs : List Nat) (h : xs.length ≤ 1048576) : (logsR xs).length ≤ 1048576 := by
  unfold logsR
  split
  · rw [List.length_map]; exact h
  · simp
set_option maxHeartbeats 2000000 in
set_option maxRecDepth 100000 in
theorem logsOf_any (A : Option Addr) (n c : Nat) (xs : List Nat) (w : World) (hn : xs.length = n) (hm : n ≤ 1048576) (hr : Rd w w.heap.size A (xs.map (Value.float .f32))) :
    Calls Try.prog 20 #[.slice A n c] w fun e w' => GivesF w.heap.size (logsR xs) (logOk xs) e w' ∧ Below w.heap.size w w' := by
  have cl := isList_any A n c xs w hn hm hr
  cases hl : listB xs
  · rw [hl] at cl
    have HC := Lib.hid cl
    have HR : Hid (logsR xs = [] ∧ logOk xs = false) := Lib.hid (by unfold logsR logOk; rw [hl]; exact ⟨rfl, rfl⟩)
    clear cl hl hr hn
    go_enter Try.func20, Try.ntmps20
    go_wp2_with fail
    refine HC.out.mono ?_
    rintro e w1 ⟨rfl, hb⟩
    have HB := Lib.hid hb; clear hb
    go_wp2
    go_ret2
    rw [HR.out.1, HR.out.2]
    exact ⟨⟨none, 0, rfl, ⟨rfl, .inl ⟨rfl, rfl⟩⟩⟩, HB.out⟩
  · obtain ⟨hn256, hfin⟩ := listB_len hl
    rw [hn] at hn256
    rw [hl] at cl
    have HC := Lib.hid cl
    obtain ⟨i0, hi, hz0, hz1, hz2⟩ := info_parts Try.info23
    have HR : Hid (logOk xs = !(xs.any fun x => !gtB x)) := Lib.hid (by unfold logOk; rw [hl]; rfl)
    have HM := Lib.hid (finL_mem hfin)
    have Hr := Lib.hid hr
    have Hn := Lib.hid hn
    clear cl hl hr hn hfin
    go_enter Try.func20, Try.ntmps20
    go_wp2_with fail
    refine HC.out.mono ?_
    rintro e w1 ⟨rfl, hb⟩
    have hzw := hb.size
    have R1 := Lib.hid (Hr.out.next hb)
    have hN1 := own_nilF w1 23 w1.heap.size (Nat.le_refl _)
    have HN1 := Lib.hid (own_base hN1 hzw)
    have HB0 := Lib.hid (bthen hb (below_new w1 (.cells #[] 23)))
    clear hb hN1
    go_wp2_with fail
    go_loopw [4, 13] (fun v i wr => ∃ (k : Nat) (ls : List Nat), k ≤ n ∧ i = .int .i64 k ∧ ls.length = k ∧ Hid (ls = (xs.take k).map logC) ∧ Hid ((xs.take k).any (fun x => !gtB x) = false) ∧ wr.ownsRow w.heap.size 23 1 v ls.length (ls.map (Value.float .f32)) ∧ Below w.heap.size w wr) (fun _ i _ => n - (intOf i).toNat)
    case atStart => exact ⟨0, [], Nat.zero_le _, rfl, rfl, Lib.hid rfl, Lib.hid rfl, HN1.out, HB0.out⟩
    case round =>
      obtain ⟨k, ls, hk, rfl, hll, HL, HA, hv, hb⟩ := hrel
      have HV := Lib.hid hv
      have HB := Lib.hid hb
      have HLL := Lib.hid hll
      have hl2 : ls.length ≤ 256 := by omega
      have hwz := HB.out.size
      clear hv hb hll
      obtain ⟨Av, cv, rfl, hrv⟩ := shapeOf HV.out
      by_cases hlt : k < n
      · have hka : k < xs.length := by rw [Hn.out]; exact hlt
        obtain ⟨ad, rfl, had, hck⟩ := ((Hr.out.below HB.out).more hwz).at_ (k := k) (by rw [List.length_map]; exact hka)
        rw [List.getElem_map] at hck
        have hfx := HM.out xs[k] (List.getElem_mem hka)
        have HS1 : Hid ((xs.take (k + 1)).map logC = (xs.take k).map logC ++ [logC xs[k]]) := Lib.hid (by rw [List.take_succ_eq_append_getElem hka, List.map_append]; rfl)
        have hstep := any_step (p := fun x => !gtB x) hka HA.out
        have hbad := any_found (p := fun x => !gtB x) hka
        obtain ⟨x, hx⟩ : ∃ x, x = xs[k] := ⟨_, rfl⟩
        rw [← hx] at hck HS1 hfx hstep hbad
        clear hx hrv
        cases hg : gtB x
        · have HR2 : Hid (logsR xs = [] ∧ logOk xs = false) := Lib.hid (by
            have h := hbad (by rw [hg]; rfl)
            have h2 : logOk xs = false := by rw [HR.out, h]; rfl
            unfold logsR
            rw [h2]
            exact ⟨rfl, rfl⟩)
          have HO := Lib.hid (gtB_f hfx hg)
          clear hbad hstep hfx hg
          rcases HO.out with ho | ho
          all_goals
            go_wp2
            go_ret2
            rw [HR2.out.1, HR2.out.2]
            exact ⟨⟨none, 0, rfl, ⟨rfl, .inl ⟨rfl, rfl⟩⟩⟩, HB.out⟩
        · have HA2 := Lib.hid (hstep (by rw [hg]; rfl))
          have ho := gtB_t hg
          have HLg := Lib.hid (fun W => logNumber_any x W hfx ho)
          clear hbad hstep hfx hg
          go_wp2_with fail
          refine (HLg.out _).mono ?_
          rintro e w' ⟨rfl, m, rfl⟩
          have HVq := Lib.hid (own_drw HV.out ⟨m, rfl⟩)
          have HBq := Lib.hid (below_drw HB.out ⟨m, rfl⟩)
          obtain ⟨wq, hwq⟩ : ∃ y, y = wr.drewN m := ⟨_, rfl⟩
          rw [← hwq] at HVq HBq ⊢
          have hzq := HBq.out.size
          clear hwq hck
          go_wp2_with (at_builtin; go_must (refine wpList_append_own_at _ rfl (.tmp 20) (.tmp 23) 31 rfl w.heap.size 23 i0 (.float .f32 0) 1 4 Try.underlying31 hi hz0 hz1 hz2 rfl (by decide) _ _ _ rfl (HVq.out.alloc _) ⟨wq.heap.size, 0, none⟩ 1 1 [.float .f32 (logC x)] rfl rfl (newOne wq _ 23) (oneF _ _) ?_ ?_ ?_ ?_))
          · unfold maxLen; omega
          · omega
          · simp; omega
          intro v' w7 hown' hgrow _ hat'
          have HV7 := Lib.hid (own_appF hown')
          have HB7 := Lib.hid ((HBq.out.alloc hzq (.cells #[.float .f32 (logC x)] 23)).grown hgrow (by simp; omega) (fun q hq => (HVq.out.lt q hq).1))
          clear hown' hgrow hat'
          go_wp2
          go_roundw
          case rel => exact ⟨k + 1, ls ++ [logC x], by omega, by go_num, by rw [List.length_append, HLL.out]; rfl, Lib.hid (by rw [HS1.out, HL.out]), HA2, HV7.out, HB7.out⟩
          case measure => simp [intOf]; omega
      · obtain rfl : n = k := by omega
        have hT : xs.take n = xs := List.take_of_length_le (by rw [Hn.out]; omega)
        have HR2 : Hid (logsR xs = ls ∧ logOk xs = true) := Lib.hid (by
          have h := HA.out
          have h1 := HL.out
          rw [hT] at h h1
          have h2 : logOk xs = true := by rw [HR.out, h]; rfl
          unfold logsR
          rw [h2, if_pos rfl]
          exact ⟨h1.symm, rfl⟩)
        clear hT hrv
        go_wp2
        go_ret2
        rw [HR2.out.1, HR2.out.2]
        exact ⟨⟨_, _, rfl, HV.out⟩, HB.out⟩
set_option maxHeartbeats 2000000 in
set_option maxRecDepth 100000 in
theorem specLogsOf_any (A : Option Addr) (n c : Nat) (xs : List Nat) (w : World) (hn : xs.length = n) (hm : n ≤ 1048576) (hr : Rd w w.heap.size A (xs.map (Value.float .f32))) :
    Calls Try.prog 18 #[.slice A n c] w fun e w' => GivesF w.heap.size (logsR xs) (logOk xs) e w' ∧ Below w.heap.size w w' := by
  have cl := l06List_any A n c xs w hn hm hr
  cases hl : listB xs
  · rw [hl] at cl
    have HC := Lib.hid cl
    have HR : Hid (logsR xs = [] ∧ logOk xs = false) := Lib.hid (by unfold logsR logOk; rw [hl]; exact ⟨rfl, rfl⟩)
    clear cl hl hr hn
    go_enter Try.func18, Try.ntmps18
    go_wp2_with fail
    refine HC.out.mono ?_
    rintro e w1 ⟨rfl, m0, rfl⟩
    have hb := below_drewN (Below.refl w.heap.size w) m0
    obtain ⟨w1, hw1⟩ : ∃ x, x = w.drewN m0 := ⟨_, rfl⟩
    rw [← hw1] at hb ⊢
    clear hw1
    have HB := Lib.hid hb; clear hb
    go_wp2
    go_ret2
    rw [HR.out.1, HR.out.2]
    exact ⟨⟨none, 0, rfl, ⟨rfl, .inl ⟨rfl, rfl⟩⟩⟩, HB.out⟩
  · obtain ⟨hn256, hfin⟩ := listB_len hl
    rw [hn] at hn256
    rw [hl] at cl
    have HC := Lib.hid cl
    obtain ⟨i0, hi, hz0, hz1, hz2⟩ := info_parts Try.info23
    have HR : Hid (logOk xs = !(xs.any fun x => !gtB x)) := Lib.hid (by unfold logOk; rw [hl]; rfl)
    have HM := Lib.hid (finL_mem hfin)
    have Hr := Lib.hid hr
    have Hn := Lib.hid hn
    clear cl hl hr hn hfin
    go_enter Try.func18, Try.ntmps18
    go_wp2_with fail
    refine HC.out.mono ?_
    rintro e w1 ⟨rfl, m0, rfl⟩
    have hb := below_drewN (Below.refl w.heap.size w) m0
    obtain ⟨w1, hw1⟩ : ∃ x, x = w.drewN m0 := ⟨_, rfl⟩
    rw [← hw1] at hb ⊢
    clear hw1
    have hzw := hb.size
    have R1 := Lib.hid (Hr.out.next hb)
    have hN1 := own_nilF w1 23 w1.heap.size (Nat.le_refl _)
    have HN1 := Lib.hid (own_base hN1 hzw)
    have HB0 := Lib.hid (bthen hb (below_new w1 (.cells #[] 23)))
    clear hb hN1
    go_wp2_with fail
    go_loopw [4, 5] (fun v i wr => ∃ (k : Nat) (ls : List Nat), k ≤ n ∧ i = .int .i64 k ∧ ls.length = k ∧ Hid (ls = (xs.take k).map logC) ∧ Hid ((xs.take k).any (fun x => !gtB x) = false) ∧ wr.ownsRow w.heap.size 23 1 v ls.length (ls.map (Value.float .f32)) ∧ Below w.heap.size w wr) (fun _ i _ => n - (intOf i).toNat)
    case atStart => exact ⟨0, [], Nat.zero_le _, rfl, rfl, Lib.hid rfl, Lib.hid rfl, HN1.out, HB0.out⟩
    case round =>
      obtain ⟨k, ls, hk, rfl, hll, HL, HA, hv, hb⟩ := hrel
      have HV := Lib.hid hv
      have HB := Lib.hid hb
      have HLL := Lib.hid hll
      have hl2 : ls.length ≤ 256 := by omega
      have hwz := HB.out.size
      clear hv hb hll
      obtain ⟨Av, cv, rfl, hrv⟩ := shapeOf HV.out
      by_cases hlt : k < n
      · have hka : k < xs.length := by rw [Hn.out]; exact hlt
        obtain ⟨ad, rfl, had, hck⟩ := ((Hr.out.below HB.out).more hwz).at_ (k := k) (by rw [List.length_map]; exact hka)
        rw [List.getElem_map] at hck
        have hfx := HM.out xs[k] (List.getElem_mem hka)
        have HS1 : Hid ((xs.take (k + 1)).map logC = (xs.take k).map logC ++ [logC xs[k]]) := Lib.hid (by rw [List.take_succ_eq_append_getElem hka, List.map_append]; rfl)
        have hstep := any_step (p := fun x => !gtB x) hka HA.out
        have hbad := any_found (p := fun x => !gtB x) hka
        obtain ⟨x, hx⟩ : ∃ x, x = xs[k] := ⟨_, rfl⟩
        rw [← hx] at hck HS1 hfx hstep hbad
        clear hx hrv
        cases hg : gtB x
        · have HR2 : Hid (logsR xs = [] ∧ logOk xs = false) := Lib.hid (by
            have h := hbad (by rw [hg]; rfl)
            have h2 : logOk xs = false := by rw [HR.out, h]; rfl
            unfold logsR
            rw [h2]
            exact ⟨rfl, rfl⟩)
          have HO := Lib.hid (gtB_f hfx hg)
          clear hbad hstep hfx hg
          rcases HO.out with ho | ho
          all_goals
            go_wp2
            go_ret2
            rw [HR2.out.1, HR2.out.2]
            exact ⟨⟨none, 0, rfl, ⟨rfl, .inl ⟨rfl, rfl⟩⟩⟩, HB.out⟩
        · have HA2 := Lib.hid (hstep (by rw [hg]; rfl))
          have ho := gtB_t hg
          have HLg := Lib.hid (fun W => l01Log_any x W hfx ho)
          clear hbad hstep hfx hg
          go_wp2_with fail
          refine (HLg.out _).mono ?_
          rintro e w' ⟨rfl, m, rfl⟩
          have HVq := Lib.hid (own_drw HV.out ⟨m, rfl⟩)
          have HBq := Lib.hid (below_drw HB.out ⟨m, rfl⟩)
          obtain ⟨wq, hwq⟩ : ∃ y, y = wr.drewN m := ⟨_, rfl⟩
          rw [← hwq] at HVq HBq ⊢
          have hzq := HBq.out.size
          clear hwq hck
          go_wp2_with (at_builtin; go_must (refine wpList_append_own_at _ rfl (.tmp 22) (.tmp 28) 31 rfl w.heap.size 23 i0 (.float .f32 0) 1 4 Try.underlying31 hi hz0 hz1 hz2 rfl (by decide) _ _ _ rfl (HVq.out.alloc _) ⟨wq.heap.size, 0, none⟩ 1 1 [.float .f32 (logC x)] rfl rfl (newOne wq _ 23) (oneF _ _) ?_ ?_ ?_ ?_))
          · unfold maxLen; omega
          · omega
          · simp; omega
          intro v' w7 hown' hgrow _ hat'
          have HV7 := Lib.hid (own_appF hown')
          have HB7 := Lib.hid ((HBq.out.alloc hzq (.cells #[.float .f32 (logC x)] 23)).grown hgrow (by simp; omega) (fun q hq => (HVq.out.lt q hq).1))
          clear hown' hgrow hat'
          go_wp2
          go_roundw
          case rel => exact ⟨k + 1, ls ++ [logC x], by omega, by go_num, by rw [List.length_append, HLL.out]; rfl, Lib.hid (by rw [HS1.out, HL.out]), HA2, HV7.out, HB7.out⟩
          case measure => simp [intOf]; omega
      · obtain rfl : n = k := by omega
        have hT : xs.take n = xs := List.take_of_length_le (by rw [Hn.out]; omega)
        have HR2 : Hid (logsR xs = ls ∧ logOk xs = true) := Lib.hid (by
          have h := HA.out
          have h1 := HL.out
          rw [hT] at h h1
          have h2 : logOk xs = true := by rw [HR.out, h]; rfl
          unfold logsR
          rw [h2, if_pos rfl]
          exact ⟨h1.symm, rfl⟩)
        clear hT hrv
        go_wp2
        go_ret2
        rw [HR2.out.1, HR2.out.2]
        exact ⟨⟨_, _, rfl, HV.out⟩, HB.out⟩
end Go.Proofs.Ytcpimcjmckljfaa
