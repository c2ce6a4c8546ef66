/- Logarithms of whatever float32, both ways. -/
import Derived.Test.YtcpimcjmckljfaaLogs
import Derived.Test.YtcpimcjmckljfaaSlope
import Derived.Test.YtcpimcjmckljfaaBound
namespace Go.Proofs.Ytcpimcjmckljfaa
open Ieee Go.RowKit
/-- the logarithm of a float32, told for all -/
def logX (c : Nat) : Nat :=
  if nanF .f32 c = true then qnan .f32
  else if FloatKind.f32.format.order c 0 = some .eq then 4286578688
  else if FloatKind.f32.format.order c 0 = some .lt then qnan .f32
  else if finB c = true then logC c else 2139095040
/-- a number, a NaN, or an infinity as it is written -/
def Good (c : Nat) : Prop := nanF .f32 c = true ∨ finB c = true ∨ c = 2139095040 ∨ c = 4286578688
theorem logX_pos {c : Nat} (hf : finB c = true) (ho : FloatKind.f32.format.order c 0 = some .gt) : logX c = logC c := by
  unfold logX
  rw [if_neg (by rw [fin_num hf]; decide), ho, if_neg (by decide), if_neg (by decide), if_pos hf]
theorem good_inf {c : Nat} (h : Good c) (hn : nanF .f32 c = false) (hf : finB c = false) (ho : FloatKind.f32.format.order c 0 = some .gt) : c = 2139095040 := by
  rcases h with h | h | h | h
  · rw [hn] at h; cases h
  · rw [hf] at h; cases h
  · exact h
  · subst h
    have : FloatKind.f32.format.order 4286578688 0 = some .lt := by decide
    rw [this] at ho; cases ho
theorem good_word (s : Bool) {r : Nat} (h : r ≤ 2139095040) : Good (FloatKind.f32.format.word s r) := by
  obtain ⟨a, b, c, d⟩ := fmt32
  by_cases hr : r = 2139095040
  · subst hr
    cases s
    · exact .inr (.inr (.inl (by decide)))
    · exact .inr (.inr (.inr (by decide)))
  · right; left
    have hrd := read_word FloatKind.f32.format s (r := r) (by have := FloatKind.f32.format.infRung_lt; rw [b] at this; omega)
    rw [a, b, c] at hrd
    split at hrd
    · exact fin_of hrd
    · rw [if_pos (by omega)] at hrd
      exact fin_of hrd
theorem good_write {d : Datum} (h : d.isNaN = false) : Good (FloatKind.f32.format.write d) := by
  obtain ⟨a, b, c, e⟩ := fmt32
  cases d with
  | nan s t => cases h
  | infinity s => exact good_word s (by rw [b]; exact Nat.le_refl _)
  | number s m p =>
    show Good (FloatKind.f32.format.nearest s m p)
    unfold Format.nearest
    split
    · exact good_word s (Nat.zero_le _)
    · exact good_word s (by rw [← b]; exact Nat.min_le_right _ _)
theorem good_int (z : Int) : Good (floatOfInt .f32 z) := good_write (d := .number (decide (z < 0)) z.natAbs 0) rfl
theorem good_quo (x y : Nat) : Good (fop .quo .f32 x y) := by
  cases h : floatBits .quo .f32 x y with
  | none => left; unfold fop; rw [h]; exact qnan_nan .f32
  | some r =>
    rw [fop_some h]
    unfold floatBits Format.div at h
    dsimp only at h
    cases hd : (FloatKind.f32.format.read x).quotient (FloatKind.f32.format.fractionBits + 2) (FloatKind.f32.format.read y) with
    | none => rw [hd] at h; cases h
    | some d =>
      rw [hd] at h
      rw [← Option.some.inj h]
      refine good_write ?_
      cases h1 : FloatKind.f32.format.read x <;> cases h2 : FloatKind.f32.format.read y <;> rw [h1, h2] at hd <;> unfold Datum.quotient at hd <;> dsimp only at hd
      all_goals first
        | (cases hd; rfl)
        | (split at hd <;> first | (cases hd; rfl) | (split at hd <;> cases hd; rfl))
        | cases hd
theorem nan_f64 : nanF .f64 9221120237041090561 = true := by decide
theorem Nar.nan {x : Nat} (h : nanF .f64 x = true) : Nar x := .inl h
theorem ninf_nar : floatToFloatBits .f64 18442240474082181120 .f32 = some 4286578688 := by decide +kernel
set_option maxHeartbeats 2000000 in
set_option maxRecDepth 100000 in
theorem logNumber_all (x c : Nat) (w : World) (hg : Good c) (h : Sim .f32 x c) : Calls Try.prog 55 #[.float .f32 x] w fun e w' => (∃ r, e = .returned (.float .f32 r) ∧ Sim .f32 r (logX c)) ∧ ∃ m, w' = w.drewN m := by
  cases hn : nanF .f32 c
  · obtain rfl := h.eq hn
    obtain ⟨o, ho⟩ := order_some .f32 hn num_zero
    have hself : FloatKind.f32.format.order x x = some .eq := order_self hn
    cases o
    · have HX : Hid (logX x = qnan .f32) := Lib.hid (by unfold logX; rw [hn, if_neg (by decide), ho, if_neg (by decide), if_pos rfl])
      have HV := Lib.hid (fun W => run_nar (P := Try.prog) W 28 23 (by rw [Try.und28]; rfl) Try.und23 9221120237041090561 (.inl nan_f64))
      clear h hn
      go_enter Try.func55, Try.ntmps55
      go_wp2_with fail
      refine (nan_any _).mono ?_
      rintro e w' ⟨rfl, rfl⟩
      go_wp2_with (refine wpList_conv rfl 28 23 (.tmp 16) rfl .f64 .f32 _ _ rfl (HV.out _) ?_; intro r1 m1 h1)
      go_ret
      exact ⟨⟨_, rfl, .inr ⟨h1.nan.trans (nar_nan nan_f64), by rw [HX.out]; exact qnan_nan .f32⟩⟩, _, rfl⟩
    · have HX : Hid (logX x = 4286578688) := Lib.hid (by unfold logX; rw [hn, if_neg (by decide), ho, if_pos rfl])
      have hn2 := fun (w : World) => run_convert_float_float (P := Try.prog) w 28 23 .f64 .f32 18442240474082181120 _ (by rw [Try.und28]; rfl) Try.und23 ninf_nar
      clear h hn
      go_enter Try.func55, Try.ntmps55
      go_wp2_with fail
      refine (ninf_any _).mono ?_
      rintro e w' ⟨rfl, rfl⟩
      go_wp2
      go_ret
      exact ⟨⟨_, rfl, by rw [HX.out]; exact .refl _ _⟩, 0, rfl⟩
    · cases hf : finB x
      · have hxi : x = 2139095040 := good_inf hg hn hf ho
        have HX : Hid (logX x = x) := Lib.hid (by unfold logX; rw [hn, if_neg (by decide), ho, if_neg (by decide), if_neg (by decide), hf]; exact hxi.symm)
        clear hxi hg
        have c63 := fun W => isFinite_any x W
        rw [hf] at c63
        have HC := Lib.hid c63
        clear c63 hf h hn
        go_enter Try.func55, Try.ntmps55
        go_wp2_with fail
        refine (HC.out _).mono ?_
        rintro e w' ⟨rfl, m, rfl⟩
        go_wp2
        go_ret
        exact ⟨⟨_, rfl, by rw [HX.out]; exact .refl _ _⟩, _, rfl⟩
      · refine (logNumber_any x w hf ho).mono ?_
        rintro e w' ⟨rfl, hq⟩
        exact ⟨⟨_, rfl, by rw [logX_pos hf ho]; exact .refl _ _⟩, hq⟩
  · have HX : Hid (logX c = qnan .f32) := Lib.hid (by unfold logX; rw [if_pos hn])
    have hx : nanF .f32 x = true := h.nan.trans hn
    have h0 := (order_nan hx 0).1
    have h1 := (order_nan hx x).1
    have HV := Lib.hid (fun W => run_nar (P := Try.prog) W 28 23 (by rw [Try.und28]; rfl) Try.und23 9221120237041090561 (.inl nan_f64))
    clear h hn hx
    go_enter Try.func55, Try.ntmps55
    go_wp2_with fail
    refine (nan_any _).mono ?_
    rintro e w' ⟨rfl, rfl⟩
    go_wp2_with (refine wpList_conv rfl 28 23 (.tmp 16) rfl .f64 .f32 _ _ rfl (HV.out _) ?_; intro r1 m1 h1)
    go_ret
    exact ⟨⟨_, rfl, .inr ⟨h1.nan.trans (nar_nan nan_f64), by rw [HX.out]; exact qnan_nan .f32⟩⟩, _, rfl⟩
/-- how a number stands to nought -/
theorem order_sign (k : FloatKind) {x : Nat} {s : Bool} {m : Nat} {p : Int} (h : k.format.read x = .number s m p) : k.format.order x 0 = some (if m = 0 then .eq else if s = true then .lt else .gt) := by
  obtain ⟨q, h0⟩ : ∃ q, k.format.read 0 = .number false 0 q := by cases k <;> exact ⟨_, rfl⟩
  unfold Format.order
  rw [h, h0]
  unfold Datum.order
  dsimp only
  have hz : signed false 0 (q - min p q).toNat = 0 := by unfold signed; simp
  rw [hz]
  congr 1
  by_cases hm : m = 0
  · rw [if_pos hm]; subst hm
    unfold signed
    cases s <;> simp
  · rw [if_neg hm]
    have hp : 0 < m <<< (p - min p q).toNat := by rw [Nat.shiftLeft_eq]; exact Nat.mul_pos (Nat.pos_of_ne_zero hm) (Nat.two_pow_pos _)
    unfold signed
    cases s
    · rw [if_neg (by decide), if_neg (by decide), Int.compare_eq_gt]; omega
    · rw [if_pos rfl, if_pos rfl, Int.compare_eq_lt]; omega
theorem order_inf (k : FloatKind) {x : Nat} {s : Bool} (h : k.format.read x = .infinity s) : k.format.order x 0 = some (if s = true then .lt else .gt) := by
  obtain ⟨q, h0⟩ : ∃ q, k.format.read 0 = .number false 0 q := by cases k <;> exact ⟨_, rfl⟩
  unfold Format.order
  rw [h, h0]
  rfl
/-- a float32 stands to nought as its float64 does -/
theorem wid_order {x : Nat} (h : nanF .f32 x = false) : FloatKind.f64.format.order (wid x) 0 = FloatKind.f32.format.order x 0 := by
  rcases num_read h with ⟨s, h1⟩ | ⟨s, m, p, h1⟩
  · rw [order_inf .f64 (inf_wid h1), order_inf .f32 h1]
  · obtain ⟨hw, hnn⟩ := wid_num h
    have hp := read_place h1
    have hfit : m = 0 ∨ p + m.log2 ≤ 127 := by
      rcases read_cases .f32 x with h2 | ⟨t, h2⟩ | ⟨t, n, q, h2, h3⟩
      · rw [h1] at h2; cases h2
      · rw [h1] at h2; cases h2
      · rw [h1] at h2; injection h2 with _ e2 e3; subst e2 e3; exact h3
    have he : wid x = FloatKind.f64.format.nearest s m p := by
      unfold floatToFloatBits at hw
      rw [if_neg (by decide), show FloatKind.f32.decode x = .number s m p from h1] at hw
      dsimp only at hw
      split at hw
      · cases hw
      · exact (Option.some.inj hw).symm
    rw [order_sign .f32 h1, he]
    by_cases hm : m = 0
    · subst hm
      have : FloatKind.f64.format.read (FloatKind.f64.format.nearest s 0 p) = .number s 0 (-1074) := by
        unfold Format.nearest
        rw [if_pos rfl, read_word _ s (by decide), if_pos (by decide)]
        rfl
      rw [order_sign .f64 this]
    · obtain ⟨a, b, c, d⟩ := fmt64
      obtain ⟨n, q, h3, h4, _⟩ := nearest_low FloatKind.f64.format s m p hm (by rw [c, d]; omega) (by rw [a, b, c, d]; omega)
      rw [order_sign .f64 h3, if_neg h4, if_neg hm]
set_option maxHeartbeats 1000000 in
theorem isInf_inf (w : World) : Calls Try.prog 109 #[.float .f64 9218868437227405312, .int .i64 1] w fun e w' => e = .returned (.bool true) ∧ w = w' := by
  have h1 : FloatKind.f64.format.order 9218868437227405312 9218868437227405311 = some .gt := by decide +kernel
  go_enter Try.func109, Try.ntmps109
  go_wp2
  go_ret
  exact ⟨rfl, rfl⟩
set_option maxHeartbeats 1000000 in
set_option maxRecDepth 100000 in
theorem logWide_nan (y : Nat) (w : World) (h : nanF .f64 y = true ∨ FloatKind.f64.format.order y 0 = some .lt) : Calls Try.prog 93 #[.float .f64 y] w fun e w' => e = .returned (.float .f64 9221120237041090561) ∧ w = w' := by
  cases hn : nanF .f64 y
  · have h0 := h.resolve_left (by rw [hn]; decide)
    have h1 := order_self hn
    clear h hn
    go_enter Try.func93, Try.ntmps93
    go_wp2_with fail
    refine (nan_any _).mono ?_
    rintro e w' ⟨rfl, rfl⟩
    go_wp2
    go_ret
    exact ⟨rfl, rfl⟩
  · have h1 := (order_nan hn y).1
    clear h hn
    go_enter Try.func93, Try.ntmps93
    go_wp2_with fail
    refine (nan_any _).mono ?_
    rintro e w' ⟨rfl, rfl⟩
    go_wp2
    go_ret
    exact ⟨rfl, rfl⟩
set_option maxHeartbeats 1000000 in
set_option maxRecDepth 100000 in
theorem logWide_zero (y : Nat) (w : World) (h0 : FloatKind.f64.format.order y 0 = some .eq) (h1 : FloatKind.f64.format.order y y = some .eq) : Calls Try.prog 93 #[.float .f64 y] w fun e w' => e = .returned (.float .f64 18442240474082181120) ∧ w = w' := by
  go_enter Try.func93, Try.ntmps93
  go_wp2_with fail
  refine (ninf_any _).mono ?_
  rintro e w' ⟨rfl, rfl⟩
  go_wp2
  go_ret
  exact ⟨rfl, rfl⟩
set_option maxHeartbeats 1000000 in
set_option maxRecDepth 100000 in
theorem logWide_inf (w : World) : Calls Try.prog 93 #[.float .f64 9218868437227405312] w fun e w' => e = .returned (.float .f64 9218868437227405312) ∧ w = w' := by
  have h0 : FloatKind.f64.format.order 9218868437227405312 0 = some .gt := by decide +kernel
  have h1 : FloatKind.f64.format.order 9218868437227405312 9218868437227405312 = some .eq := by decide +kernel
  go_enter Try.func93, Try.ntmps93
  go_wp2_with fail
  refine (isInf_inf _).mono ?_
  rintro e w' ⟨rfl, rfl⟩
  go_wp2
  go_ret
  exact ⟨rfl, rfl⟩
set_option maxHeartbeats 2000000 in
set_option maxRecDepth 100000 in
theorem l01Log_all (x c : Nat) (w : World) (hg : Good c) (h : Sim .f32 x c) : Calls Try.prog 53 #[.float .f32 x] w fun e w' => (∃ r, e = .returned (.float .f32 r) ∧ Sim .f32 r (logX c)) ∧ ∃ m, w' = w.drewN m := by
  have HNN := Lib.hid (fun W => narrow_any 9221120237041090561 9221120237041090561 W (.inl nan_f64) (.refl _ _))
  cases hn : nanF .f32 c
  · obtain rfl := h.eq hn
    obtain ⟨hwd, hwn⟩ := wid_num hn
    have hcv := fun (w : World) => run_convert_float_float (P := Try.prog) w 23 28 .f32 .f64 x _ (by rw [Try.und23]; rfl) Try.und28 hwd
    obtain ⟨o, ho⟩ := order_some .f32 hn num_zero
    have how := (wid_order hn).trans ho
    have hself : FloatKind.f64.format.order (wid x) (wid x) = some .eq := order_self hwn
    cases o
    · have HX : Hid (logX x = qnan .f32) := Lib.hid (by unfold logX; rw [hn, if_neg (by decide), ho, if_neg (by decide), if_pos rfl])
      have HL := Lib.hid (fun W => logWide_nan (wid x) W (.inr how))
      clear h hn hwd hwn ho how hself hg
      go_enter Try.func53, Try.ntmps53
      go_wp2_with fail
      refine (HL.out _).mono ?_
      rintro e w' ⟨rfl, rfl⟩
      go_wp2_with fail
      refine (HNN.out _).mono ?_
      rintro e w' ⟨⟨r, rfl, hr⟩, m, rfl⟩
      go_wp2
      go_ret
      exact ⟨⟨_, rfl, .inr ⟨hr.nan.trans (nar_nan nan_f64), by rw [HX.out]; exact qnan_nan .f32⟩⟩, _, rfl⟩
    · have HX : Hid (logX x = 4286578688) := Lib.hid (by unfold logX; rw [hn, if_neg (by decide), ho, if_pos rfl])
      have HL := Lib.hid (fun W => logWide_zero (wid x) W how hself)
      have HN2 := Lib.hid (fun W => narrow_any 18442240474082181120 18442240474082181120 W (.inr ⟨_, ninf_nar⟩) (.refl _ _))
      clear h hn hwd hwn ho how hself hg
      go_enter Try.func53, Try.ntmps53
      go_wp2_with fail
      refine (HL.out _).mono ?_
      rintro e w' ⟨rfl, rfl⟩
      go_wp2_with fail
      refine (HN2.out _).mono ?_
      rintro e w' ⟨⟨r, rfl, hr⟩, m, rfl⟩
      go_wp2
      go_ret
      exact ⟨⟨_, rfl, by rw [HX.out]; unfold nar at hr; rw [ninf_nar] at hr; exact hr⟩, _, rfl⟩
    · cases hf : finB x
      · have hxi : x = 2139095040 := good_inf hg hn hf ho
        have HX : Hid (logX x = 2139095040) := Lib.hid (by unfold logX; rw [hn, if_neg (by decide), ho, if_neg (by decide), if_neg (by decide), hf]; rfl)
        have hwx : wid x = 9218868437227405312 := by rw [hxi]; decide +kernel
        have HL := Lib.hid (fun W => logWide_inf W)
        have hin : floatToFloatBits .f64 9218868437227405312 .f32 = some 2139095040 := by decide +kernel
        have HN2 := Lib.hid (fun W => narrow_any 9218868437227405312 9218868437227405312 W (.inr ⟨_, hin⟩) (.refl _ _))
        have HE : Hid (nar 9218868437227405312 = 2139095040) := Lib.hid (by unfold nar; rw [hin]; rfl)
        rw [hwx] at hcv
        clear h hn hwd hwn ho how hself hg hf hxi hwx hin
        go_enter Try.func53, Try.ntmps53
        go_wp2_with fail
        refine (HL.out _).mono ?_
        rintro e w' ⟨rfl, rfl⟩
        go_wp2_with fail
        refine (HN2.out _).mono ?_
        rintro e w' ⟨⟨r, rfl, hr⟩, m, rfl⟩
        go_wp2
        go_ret
        exact ⟨⟨_, rfl, by rw [HX.out]; rw [HE.out] at hr; exact hr⟩, _, rfl⟩
      · refine (l01Log_any x w hf ho).mono ?_
        rintro e w' ⟨rfl, hq⟩
        exact ⟨⟨_, rfl, by rw [logX_pos hf ho]; exact .refl _ _⟩, hq⟩
  · have HX : Hid (logX c = qnan .f32) := Lib.hid (by unfold logX; rw [if_pos hn])
    have hx : nanF .f32 x = true := h.nan.trans hn
    have HW := Lib.hid (fun W => run_wid (P := Try.prog) W 23 28 (by rw [Try.und23]; rfl) Try.und28 x)
    have HL := Lib.hid (fun (y : Nat) (W : World) (hy : Sim .f64 y (wid x)) => logWide_nan y W (.inl (hy.nan.trans (wid_nan hx))))
    clear h hn hx hg
    go_enter Try.func53, Try.ntmps53
    go_wp2_with (refine wpList_conv rfl 23 28 (.tmp 3) rfl .f32 .f64 _ _ rfl (HW.out _) ?_; intro r1 m1 h1)
    refine (HL.out _ _ h1).mono ?_
    rintro e w' ⟨rfl, rfl⟩
    go_wp2_with fail
    refine (HNN.out _).mono ?_
    rintro e w' ⟨⟨r, rfl, hr⟩, m, rfl⟩
    go_wp2
    go_ret
    exact ⟨⟨_, rfl, .inr ⟨hr.nan.trans (nar_nan nan_f64), by rw [HX.out]; exact qnan_nan .f32⟩⟩, _, by first | rfl | exact World.drewN_drewN ..⟩
end Go.Proofs.Ytcpimcjmckljfaa
